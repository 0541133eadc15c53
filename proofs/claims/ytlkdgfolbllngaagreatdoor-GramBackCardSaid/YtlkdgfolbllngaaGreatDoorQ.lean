/-
  EACH FUNCTION OVER PLAIN DATA:printed by a program of ours over this translation.
-/
import Derived.Test.YtlkdgfolbllngaaGreatDoorBA
set_option linter.all false
set_option maxRecDepth 100000
set_option maxHeartbeats 4000000
namespace Go.Proofs.YtlkdgfolbllngaaGreatDoor
open Go.Sh
abbrev Zjf:PPlan:=⟨[],[],[],[],[],[]⟩
abbrev Zbjq:List Kd:=[Kd.str]
theorem Zbxs:Known Tryz.prog Zth Tryz.f40 Zjf.plan (Zde Tryz.f40):=by refine ⟨Tryz.func40,?_,?_,?_,?_,?_⟩<;>kernel_rfl
abbrev Zuv:List Pk:=[Pk.int .u8]
abbrev Zux:List Pk:=[Pk.bool]
def Zuw (c0:Int) (K:Bool->Prop):Prop:=
 IfB (decide ((c0:Int)≥32))
 (IfB (decide ((c0:Int) <= 126))
 (K true)
 (K ((c0:Int)==9)))
 (K ((c0:Int)==9))
noncomputable def Zceh:Tab:=⟨[],[]⟩
abbrev Zbka (x:PkTs Zuv) (K:PkTs Zux->Prop):Prop:=Zuw x.1 (fun r0=>K (r0,()))
theorem Zbyr:FnQ Tryz.prog Zth Zuv Zux Zbka:=(Zel Zbxs (tab:=Zceh) ⟨trivial,trivial⟩ rfl).of_eq (by kernel_rfl)
noncomputable def Zbhb:Ct:=ctRd Zuv Zux Zbka
theorem Zbvg:Zci Tryz.prog Zth Zbhb:=Zdt Zbyr
theorem Zbxv:Known Tryz.prog Zpm Tryz.f77 Zjf.plan (Zde Tryz.f77):=by refine ⟨Tryz.func77,?_,?_,?_,?_,?_⟩<;>kernel_rfl
abbrev Zrv:List Pk:=[Pk.int .u8]
abbrev Zrx:List Pk:=[Pk.bool]
def Zrw (c0:Int) (K:Bool->Prop):Prop:=
 IfB (decide (((Zfw .u8 c0 32):Int)≥97))
 (K (decide (((Zfw .u8 c0 32):Int) <= 122)))
 (K false)
noncomputable def Zcek:Tab:=⟨[],[]⟩
abbrev Zbph (x:PkTs Zrv) (K:PkTs Zrx->Prop):Prop:=Zrw x.1 (fun r0=>K (r0,()))
theorem Zcgz:FnQ Tryz.prog Zpm Zrv Zrx Zbph:=(Zel Zbxv (tab:=Zcek) ⟨trivial,trivial⟩ rfl).of_eq (by kernel_rfl)
noncomputable def Zzy:Ct:=ctRd Zrv Zrx Zbph
theorem Zbhj:Zci Tryz.prog Zpm Zzy:=Zdt Zcgz
theorem Zbxx:Known Tryz.prog Zto Tryz.f42 Zjf.plan (Zde Tryz.f42):=by refine ⟨Tryz.func42,?_,?_,?_,?_,?_⟩<;>kernel_rfl
abbrev Zrz:List Pk:=[Pk.int .u8]
abbrev Zsb:List Pk:=[Pk.bool]
def Zsa (c0:Int) (K:Bool->Prop):Prop:=
 (WfPs Zrv (c0,())->
 Zrw c0 (fun x4=>
 WfPs Zrx (x4,())->
 IfB x4
 (K true)
 (IfB (decide ((c0:Int)≥48))
 (IfB (decide ((c0:Int) <= 57))
 (K true)
 ((WfPs Zns (([95,45,46,58,47]:List UInt8),c0,())->
 Zhr ([95,45,46,58,47]:List UInt8) c0 (fun x15=>
 WfPs Znt (x15,())->
 K (decide ((x15:Int)≥0))))))
 ((WfPs Zns (([95,45,46,58,47]:List UInt8),c0,())->
 Zhr ([95,45,46,58,47]:List UInt8) c0 (fun x15_1=>
 WfPs Znt (x15_1,())->
 K (decide ((x15_1:Int)≥0))))))))
noncomputable def Zcem:Tab:=⟨[(Ztj,Zzv),(Zpm,Zzy)],[]⟩
abbrev Zbpk (x:PkTs Zrz) (K:PkTs Zsb->Prop):Prop:=Zsa x.1 (fun r0=>K (r0,()))
theorem Zchc:FnQ Tryz.prog Zto Zrz Zsb Zbpk:=(Zel Zbxx (tab:=Zcem) ⟨⟨Zbhe,Zbhj,trivial⟩,trivial⟩ rfl).of_eq (by kernel_rfl)
noncomputable def Zbhl:Ct:=ctRd Zrz Zsb Zbpk
theorem Zbvk:Zci Tryz.prog Zto Zbhl:=Zdt Zchc
theorem Zbyd:Known Tryz.prog Zpz Tryz.f79 Zjf.plan (Zde Tryz.f79):=by refine ⟨Tryz.func79,?_,?_,?_,?_,?_⟩<;>kernel_rfl
abbrev Zop:List Pk:=[Pk.str,Pk.int .i64]
abbrev Zor:List Pk:=[Pk.int .i64,Pk.bool]
def Zoq (s0:List UInt8) (most1:Int) (K:Int->Bool->Prop):Prop:=
 (WfPs Zno (s0,())->
 Zjm s0 (fun x10r0 x10r1=>
 WfPs Znp (x10r0,x10r1,())->
 IfB x10r1
 (IfB (decide ((x10r0:Int)≥0))
 (IfB (decide ((x10r0:Int) <= most1))
 ((WfPs Zjn (x10r0,())->
 Zey x10r0 (fun x27=>
 WfPs Zjo (x27,())->
 K x10r0 (x27==s0))))
 (K x10r0 false))
 (K x10r0 false))
 (K x10r0 false)))
noncomputable def Zces:Tab:=⟨[(Zek,Zmg),(Zpl,Zsz)],[]⟩
abbrev Zbti (x:PkTs Zop) (K:PkTs Zor->Prop):Prop:=Zoq x.1 x.2.1 (fun r0 r1=>K (r0,r1,()))
theorem Zcjw:FnQ Tryz.prog Zpz Zop Zor Zbti:=(Zel Zbyd (tab:=Zces) ⟨⟨Zpe,Zzt,trivial⟩,trivial⟩ rfl).of_eq (by kernel_rfl)
noncomputable def Zzz:Ct:=ctRd Zop Zor Zbti
theorem Zbhq:Zci Tryz.prog Zpz Zzz:=Zdt Zcjw
theorem Zbyc:Known Tryz.prog Ztv Tryz.f120 Zjf.plan (Zde Tryz.f120):=by refine ⟨Tryz.func120,?_,?_,?_,?_,?_⟩<;>kernel_rfl
abbrev Zok:List Pk:=[Pk.str]
abbrev Zom:List Pk:=[Pk.int .i64]
def Zyj (x7r0:Int) (j1:Bool) (K:Int->Prop):Prop:=
 IfB j1
 (K (-1))
 (K x7r0)
def Zol (s0:List UInt8) (K:Int->Prop):Prop:=
 (WfPs Zno (s0,())->
 Zjm s0 (fun x7r0 x7r1=>
 WfPs Znp (x7r0,x7r1,())->
 IfB (!x7r1)
 (Zyj x7r0 true K)
 ((WfPs Zjn (x7r0,())->
 Zey x7r0 (fun x14=>
 WfPs Zjo (x14,())->
 Zyj x7r0 (!(x14==s0)) K)))))
noncomputable def Zcer:Tab:=⟨[(Zek,Zmg),(Zpl,Zsz)],[]⟩
abbrev Zbrt (x:PkTs Zok) (K:PkTs Zom->Prop):Prop:=Zol x.1 (fun r0=>K (r0,()))
theorem Zciq:FnQ Tryz.prog Ztv Zok Zom Zbrt:=(Zel Zbyc (tab:=Zcer) ⟨⟨Zpe,Zzt,trivial⟩,trivial⟩ rfl).of_eq (by kernel_rfl)
noncomputable def Zbhp:Ct:=ctRd Zok Zom Zbrt
theorem Zbvp:Zci Tryz.prog Ztv Zbhp:=Zdt Zciq
theorem Zbxz:Known Tryz.prog Ztp Tryz.f147 Zjf.plan (Zde Tryz.f147):=by refine ⟨Tryz.func147,?_,?_,?_,?_,?_⟩<;>kernel_rfl
abbrev Zxf:List Pk:=[Pk.int .u32,Pk.int .i64]
abbrev Zxh:List Pk:=[Pk.int .u32]
def Zxg (a0:Int) (n1:Int) (K:Int->Prop):Prop:=
 (0:Int) <= (IntKind.wrap .i64 (32 - n1))∧
 K (Zsw .u32 a0 (IntKind.wrap .u32 (IntKind.wrap .u64 ((IntKind.wrap .u64 (1*(2^(min ((IntKind.wrap .i64 (32 - n1)):Int).toNat (IntKind.bits .u64))))) - 1))))
noncomputable def Zceo:Tab:=⟨[],[]⟩
abbrev Zbpn (x:PkTs Zxf) (K:PkTs Zxh->Prop):Prop:=Zxg x.1 x.2.1 (fun r0=>K (r0,()))
theorem Zchg:FnQ Tryz.prog Ztp Zxf Zxh Zbpn:=(Zel Zbxz (tab:=Zceo) ⟨trivial,trivial⟩ rfl).of_eq (by kernel_rfl)
noncomputable def Zbhm:Ct:=ctRd Zxf Zxh Zbpn
theorem Zbvl:Zci Tryz.prog Ztp Zbhm:=Zdt Zchg
def Zcaq:PPlan:=⟨[(1,[0,1,2,3,4,5,6,7,8,9,10,11,12,14,15,13,16,17,18],[18])],[],[],[],[],[]⟩
theorem Zbyf:Known Tryz.prog Zqb Tryz.f121 Zcaq.plan (Zde Tryz.f121):=by refine ⟨Tryz.func121,?_,?_,?_,?_,?_⟩<;>kernel_rfl
abbrev Zsm:List Pk:=[Pk.agg [Kd.int .u32,Kd.int .i64]]
abbrev Zso:List Pk:=[Pk.bool]
def Zsn (p0:UInt32×Int) (K:Bool->Prop):Prop:=
 IfB (decide ((p0.2:Int)≥0))
 (IfB (decide ((p0.2:Int) <= 32))
 ((WfPs Zxf ((p0.1.toNat:Int),p0.2,())->
 Zxg (p0.1.toNat:Int) p0.2 (fun x16=>
 WfPs Zxh (x16,())->
 K ((x16:Int)==(p0.1.toNat:Int)))))
 (K false))
 (K false)
noncomputable def Zceu:Tab:=⟨[(Ztp,Zbhm)],[]⟩
abbrev Zbto (x:PkTs Zsm) (K:PkTs Zso->Prop):Prop:=Zsn x.1 (fun r0=>K (r0,()))
theorem Zckc:FnQ Tryz.prog Zqb Zsm Zso Zbto:=(Zel Zbyf (tab:=Zceu) ⟨⟨Zbvl,trivial⟩,trivial⟩ rfl).of_eq (by kernel_rfl)
noncomputable def Zbaa:Ct:=ctRd Zsm Zso Zbto
theorem Zbhs:Zci Tryz.prog Zqb Zbaa:=Zdt Zckc
def Zblz:PLoop:=⟨[(32,PK.int .i64)],[2,4,30,31],[(4,[PK.int .u32,PK.int .i64])]⟩
def Zcam:PPlan:=⟨[],[(7,Zblz)],[],[],[],[]⟩
theorem Zbxu:Known Tryz.prog Ztm Tryz.f81 Zcam.plan (Zde Tryz.f81):=by refine ⟨Tryz.func81,?_,?_,?_,?_,?_⟩<;>kernel_rfl
abbrev Zxs:List Pk:=[Pk.str]
abbrev Zxu:List Pk:=[Pk.agg [Kd.int .u32,Kd.int .i64],Pk.int .i64]
def Zbeq (K:(UInt32×Int)->Int->Prop):Prop:=
 K ((ofI .u32 0),0) 5
def Zbep (K:(UInt32×Int)->Int->Prop):Prop:=
 Zbeq K
def Zber (c0:Int) (c1:Int) (x37:Int) (x19:List (List UInt8)) (x32:Int) (next7:(Int×Int×Int×Unit)->Prop) (j8:Bool) (K:(UInt32×Int)->Int->Prop):Prop:=
 IfB j8
 (Zbep K)
 ((0:Int) <= 8∧
 next7 ((IntKind.wrap .i64 (x32+1)),(Zfw .u32 (IntKind.wrap .u32 (c0*256)) (IntKind.wrap .u32 x37)),c1,()))
def Zbes (x21:Int) (x19:List (List UInt8)) (x32:Int) (c0:Int) (c1:Int) (next7:(Int×Int×Int×Unit)->Prop) (K:(UInt32×Int)->Int->Prop):Prop:=
 IfB (decide ((x32:Int)<(x19.length:Int)))
 ((0:Int) <= x32∧x32<(x19.length:Int)∧
 AtN x19 x32.toNat fun x35=>
 WfT Zbjq x35->
 (WfPs Zok (x35,())->
 Zol x35 (fun x37=>
 WfPs Zom (x37,())->
 IfB (decide ((x37:Int)<0))
 (Zber c0 c1 x37 x19 x32 next7 true K)
 (Zber c0 c1 x37 x19 x32 next7 (decide ((x37:Int)>255)) K))))
 ((WfPs Zsm ((((ofI .u32 c0),c1):UInt32×Int),())->
 Zsn (((ofI .u32 c0),c1):UInt32×Int) (fun x53=>
 WfPs Zso (x53,())->
 IfB x53
 (K ((ofI .u32 c0),c1) 0)
 (Zbeq K))))
def Zlq (x21:Int) (x19:List (List UInt8)) (j5:Bool) (K:(UInt32×Int)->Int->Prop):Prop:=
 IfB j5
 (Zbep K)
 (Zcn (Int×Int×Int×Unit) ((0:Int),(0:Int),x21,()) fun y next=>
 WfY Zblz.kinds y->
 Zbes x21 x19 y.1 y.2.1 y.2.2.1 next K)
def Zxt (s0:List UInt8) (K:(UInt32×Int)->Int->Prop):Prop:=
 (WfPs Zwf (s0,([47]:List UInt8),())->
 Znr s0 ([47]:List UInt8) (fun x14r0 x14r1 x14r2=>
 WfPs Zwg (x14r0,x14r1,x14r2,())->
 (WfPs Zrh (x14r0,([46]:List UInt8),())->
 Zlk x14r0 ([46]:List UInt8) (fun x19=>
 WfPs Zri (x19,())->
 (WfPs Zok (x14r1,())->
 Zol x14r1 (fun x21=>
 WfPs Zom (x21,())->
 IfB (!x14r2)
 (Zlq x21 x19 true K)
 (Zlq x21 x19 (((x19.length:Int):Int) !=4) K)))))))
noncomputable def Zcej:Tab:=⟨[(Zti,Zzu),(Ztk,Zzx),(Ztv,Zbhp),(Zqb,Zbaa)],[]⟩
abbrev Zbps (x:PkTs Zxs) (K:PkTs Zxu->Prop):Prop:=Zxt x.1 (fun r0 r1=>K (r0,r1,()))
theorem Zchl:FnQ Tryz.prog Ztm Zxs Zxu Zbps:=(Zel Zbxu (tab:=Zcej) ⟨⟨Zbhd,Zbhg,Zbvp,Zbhs,trivial⟩,trivial⟩ rfl).of_eq (by kernel_rfl)
noncomputable def Zbhi:Ct:=Zpd Zxs Zxu Zbps
theorem Zbvn:Zci Tryz.prog Ztm Zbhi:=Zzs Zchl
theorem Zbya:Known Tryz.prog Ztq Tryz.f82 Zjf.plan (Zde Tryz.f82):=by refine ⟨Tryz.func82,?_,?_,?_,?_,?_⟩<;>kernel_rfl
abbrev Zxi:List Pk:=[Pk.str]
abbrev Zxk:List Pk:=[Pk.int .i64,Pk.bool]
def Zxj (s0:List UInt8) (K:Int->Bool->Prop):Prop:=
 (WfPs Zwf (s0,([58]:List UInt8),())->
 Znr s0 ([58]:List UInt8) (fun x13r0 x13r1 x13r2=>
 WfPs Zwg (x13r0,x13r1,x13r2,())->
 (WfPs Zop (x13r0,(65535:Int),())->
 Zoq x13r0 (65535:Int) (fun x19r0 x19r1=>
 WfPs Zor (x19r0,x19r1,())->
 (WfPs Zop (x13r1,(65535:Int),())->
 Zoq x13r1 (65535:Int) (fun x24r0 x24r1=>
 WfPs Zor (x24r0,x24r1,())->
 (0:Int) <= 16∧
 IfB x19r1
 (K (Zfw .i64 (IntKind.wrap .i64 (x19r0*65536)) x24r0) x24r1)
 (K (Zfw .i64 (IntKind.wrap .i64 (x19r0*65536)) x24r0) false)))))))
noncomputable def Zcep:Tab:=⟨[(Zpz,Zzz),(Zti,Zzu)],[]⟩
abbrev Zbpo (x:PkTs Zxi) (K:PkTs Zxk->Prop):Prop:=Zxj x.1 (fun r0 r1=>K (r0,r1,()))
theorem Zchh:FnQ Tryz.prog Ztq Zxi Zxk Zbpo:=(Zel Zbya (tab:=Zcep) ⟨⟨Zbhq,Zbhd,trivial⟩,trivial⟩ rfl).of_eq (by kernel_rfl)
noncomputable def Zbhn:Ct:=ctRd Zxi Zxk Zbpo
theorem Zbvm:Zci Tryz.prog Ztq Zbhn:=Zdt Zchh
theorem Zbxw:Known Tryz.prog Ztn Tryz.f122 Zjf.plan (Zde Tryz.f122):=by refine ⟨Tryz.func122,?_,?_,?_,?_,?_⟩<;>kernel_rfl
abbrev Zxc:List Pk:=[Pk.str]
abbrev Zxe:List Pk:=[Pk.int .i64]
def Zry (x7r0:Int) (j1:Bool) (K:Int->Prop):Prop:=
 IfB j1
 (K (-1))
 (K x7r0)
def Zxd (s0:List UInt8) (K:Int->Prop):Prop:=
 (WfPs Zno (s0,())->
 Zjm s0 (fun x7r0 x7r1=>
 WfPs Znp (x7r0,x7r1,())->
 IfB (!x7r1)
 (Zry x7r0 true K)
 (IfB (decide ((x7r0:Int)>255))
 (Zry x7r0 true K)
 ((WfPs Zjn (x7r0,())->
 Zey x7r0 (fun x18=>
 WfPs Zjo (x18,())->
 Zry x7r0 (!(x18==s0)) K))))))
noncomputable def Zcel:Tab:=⟨[(Zek,Zmg),(Zpl,Zsz)],[]⟩
abbrev Zbpi (x:PkTs Zxc) (K:PkTs Zxe->Prop):Prop:=Zxd x.1 (fun r0=>K (r0,()))
theorem Zcha:FnQ Tryz.prog Ztn Zxc Zxe Zbpi:=(Zel Zbxw (tab:=Zcel) ⟨⟨Zpe,Zzt,trivial⟩,trivial⟩ rfl).of_eq (by kernel_rfl)
noncomputable def Zbhk:Ct:=ctRd Zxc Zxe Zbpi
theorem Zbvj:Zci Tryz.prog Ztn Zbhk:=Zdt Zcha
def Zbma:PLoop:=⟨[(5,PK.int .u32),(16,PK.int .i64)],[14,15],[]⟩
def Zcap:PPlan:=⟨[],[(6,Zbma)],[],[],[],[]⟩
theorem Zbye:Known Tryz.prog Zue Tryz.f83 Zcap.plan (Zde Tryz.f83):=by refine ⟨Tryz.func83,?_,?_,?_,?_,?_⟩<;>kernel_rfl
abbrev Zyl:List Pk:=[Pk.str]
abbrev Zyn:List Pk:=[Pk.int .u32,Pk.int .i64]
def Zbfs (x10:List (List UInt8)) (a5:Int) (x16:Int) (next6:(Int×Int×Unit)->Prop) (K:Int->Int->Prop):Prop:=
 IfB (decide ((x16:Int)<(x10.length:Int)))
 ((0:Int) <= x16∧x16<(x10.length:Int)∧
 AtN x10 x16.toNat fun x19=>
 WfT Zbjq x19->
 (WfPs Zxc (x19,())->
 Zxd x19 (fun x21=>
 WfPs Zxe (x21,())->
 IfB (decide ((x21:Int)<0))
 (K 0 2)
 ((0:Int) <= 8∧
 next6 ((Zfw .u32 (IntKind.wrap .u32 (a5*256)) (IntKind.wrap .u32 x21)),(IntKind.wrap .i64 (x16+1)),())))))
 (K a5 0)
def Zym (s0:List UInt8) (K:Int->Int->Prop):Prop:=
 (WfPs Zrh (s0,([46]:List UInt8),())->
 Zlk s0 ([46]:List UInt8) (fun x10=>
 WfPs Zri (x10,())->
 IfB (((x10.length:Int):Int) !=4)
 (K 0 2)
 (Zcn (Int×Int×Unit) ((0:Int),(0:Int),()) fun y next=>
 WfY Zbma.kinds y->
 Zbfs x10 y.1 y.2.1 next K)))
noncomputable def Zcet:Tab:=⟨[(Ztk,Zzx),(Ztn,Zbhk)],[]⟩
abbrev Zbtn (x:PkTs Zyl) (K:PkTs Zyn->Prop):Prop:=Zym x.1 (fun r0 r1=>K (r0,r1,()))
theorem Zckb:FnQ Tryz.prog Zue Zyl Zyn Zbtn:=(Zel Zbye (tab:=Zcet) ⟨⟨Zbhg,Zbvj,trivial⟩,trivial⟩ rfl).of_eq (by kernel_rfl)
noncomputable def Zbhr:Ct:=ctRd Zyl Zyn Zbtn
theorem Zbvq:Zci Tryz.prog Zue Zbhr:=Zdt Zckb
def Zcao:PPlan:=⟨[(11,[0,1,2,3,4,5,6,7],[47])],[],[],[(11,[4])],[],[]⟩
theorem Zbyb:Known Tryz.prog Zts Tryz.f43 Zcao.plan (Zde Tryz.f43):=by refine ⟨Tryz.func43,?_,?_,?_,?_,?_⟩<;>kernel_rfl
abbrev Zya:List Pk:=[Pk.str]
abbrev Zyc:List Pk:=[Pk.agg [Kd.int .i64,Kd.str,Kd.int .i64,Kd.int .u32,Kd.int .i64,Kd.int .i64],Pk.bool]
def Zgg (s0:List UInt8) (j6:Int) (j8:Int) (j9:Int) (j10:Int) (j12:Bool) (K:(Int×List UInt8×Int×UInt32×Int×Int)->Bool->Prop):Prop:=
 K (j6,s0,j8,(ofI .u32 j9),j10,0) j12
def Zyb (s0:List UInt8) (K:(Int×List UInt8×Int×UInt32×Int×Int)->Bool->Prop):Prop:=
 (WfPs Zwj (s0,([48,49,50,51,52,53,54,55,56,57]:List UInt8),())->
 Zrj s0 ([48,49,50,51,52,53,54,55,56,57]:List UInt8) (fun x14=>
 WfPs Zwk (x14,())->
 IfB (x14==([]:List UInt8))
 ((WfPs Zop (s0,(4294967295:Int),())->
 Zoq s0 (4294967295:Int) (fun x35r0 x35r1=>
 WfPs Zor (x35r0,x35r1,())->
 Zgg s0 2 x35r0 0 0 x35r1 K)))
 ((WfPs Zrf (s0,([47]:List UInt8),())->
 Znq s0 ([47]:List UInt8) (fun x41=>
 WfPs Zrg (x41,())->
 IfB x41
 ((WfPs Zxs (s0,())->
 Zxt s0 (fun x44r0 x44r1=>
 WfPs Zxu (x44r0,x44r1,())->
 Zgg s0 4 0 (x44r0.1.toNat:Int) x44r0.2 ((x44r1:Int)==0) K)))
 ((WfPs Zrf (s0,([58]:List UInt8),())->
 Znq s0 ([58]:List UInt8) (fun x54=>
 WfPs Zrg (x54,())->
 IfB x54
 ((WfPs Zxi (s0,())->
 Zxj s0 (fun x58r0 x58r1=>
 WfPs Zxk (x58r0,x58r1,())->
 Zgg s0 5 x58r0 0 0 x58r1 K)))
 ((WfPs Zwj (s0,([48,49,50,51,52,53,54,55,56,57,46]:List UInt8),())->
 Zrj s0 ([48,49,50,51,52,53,54,55,56,57,46]:List UInt8) (fun x64=>
 WfPs Zwk (x64,())->
 IfB (x64==([]:List UInt8))
 ((WfPs Zyl (s0,())->
 Zym s0 (fun x68r0 x68r1=>
 WfPs Zyn (x68r0,x68r1,())->
 Zgg s0 3 (IntKind.wrap .i64 x68r0) 0 0 ((x68r1:Int)==0) K)))
 ((0:Int) <= 0∧AtN s0 0 fun x17=>
 (WfPs Zrv ((x17.toNat:Int),())->
 Zrw (x17.toNat:Int) (fun x18=>
 WfPs Zrx (x18,())->
 IfB x18
 (IfB (decide (((s0.length:Int):Int) <= 32))
 ((WfPs Zrf (s0,([46]:List UInt8),())->
 Znq s0 ([46]:List UInt8) (fun x26=>
 WfPs Zrg (x26,())->
 Zgg s0 1 0 0 0 (!x26) K)))
 (Zgg s0 1 0 0 0 false K))
 (Zgg s0 1 0 0 0 false K)))))))))))))))
noncomputable def Zceq:Tab:=⟨[(Zpm,Zzy),(Zbai,Zbhh),(Zpz,Zzz),(Zbah,Zbhc),(Ztm,Zbhi),(Ztq,Zbhn),(Zue,Zbhr)],[]⟩
abbrev Zbrf (x:PkTs Zya) (K:PkTs Zyc->Prop):Prop:=Zyb x.1 (fun r0 r1=>K (r0,r1,()))
theorem Zcih:FnQ Tryz.prog Zts Zya Zyc Zbrf:=(Zel Zbyb (tab:=Zceq) ⟨⟨Zbhj,Zbvi,Zbhq,Zbvh,Zbvn,Zbvm,Zbvq,trivial⟩,trivial⟩ rfl).of_eq (by kernel_rfl)
noncomputable def Zbho:Ct:=Zpd Zya Zyc Zbrf
theorem Zbvo:Zci Tryz.prog Zts Zbho:=Zzs Zcih
def Zblv:PLoop:=⟨[(7,PK.int .i64)],[0,5,6,8,9],[]⟩
def Zblx:PLoop:=⟨[(9,PK.int .i64)],[0,5,6,7,8],[]⟩
def Zblw:PLoop:=⟨[(5,PK.row Zbfv [Kd.int .i64,Kd.str,Kd.int .i64,Kd.int .u32,Kd.int .i64,Kd.int .i64]),(7,PK.int .i64),(8,PK.int .i64),(9,PK.int .i64)],[0,6],[(6,[PK.int .i64,PK.str,PK.int .i64,PK.int .u32,PK.int .i64,PK.int .i64])]⟩
def Zcal:PPlan:=⟨[],[(16,Zblv),(23,Zblx),(2000000,Zblw)],[],[],[],[]⟩
theorem Zbxt:Known Tryz.prog Ztl Tryz.f14 Zcal.plan (Zde Tryz.f14):=by refine ⟨Tryz.func14,?_,?_,?_,?_,?_⟩<;>kernel_rfl
abbrev Zbpf:List Pk:=[Pk.str]
abbrev Zbpg:List Pk:=[Pk.lst [Kd.int .i64,Kd.str,Kd.int .i64,Kd.int .u32,Kd.int .i64,Kd.int .i64],Pk.int .i64,Pk.int .i64]
def Zxb (line8:Int) (next2000000:(List (Int×List UInt8×Int×UInt32×Int×Int)×Int×Int×Int×Int×List UInt8×Int×Int×Int×Int×Unit)->Prop) (K:List (Int×List UInt8×Int×UInt32×Int×Int)->Int->Int->Prop):Prop:=
 K ([]:List (Int×List UInt8×Int×UInt32×Int×Int)) line8 240
def Zbel (text0:List UInt8) (l5:List (Int×List UInt8×Int×UInt32×Int×Int)) (c0:Int) (c1:List UInt8) (c2:Int) (c3:Int) (c4:Int) (c5:Int) (at7_1:Int) (line8:Int) (end9:Int) (next2000000:(List (Int×List UInt8×Int×UInt32×Int×Int)×Int×Int×Int×Int×List UInt8×Int×Int×Int×Int×Unit)->Prop) (next16:(Int×Unit)->Prop) (j11:Bool) (K:List (Int×List UInt8×Int×UInt32×Int×Int)->Int->Int->Prop):Prop:=
 IfB j11
 ((0:Int) <= at7_1∧AtN text0 at7_1.toNat fun x54=>
 (WfPs Zuv ((x54.toNat:Int),())->
 Zuw (x54.toNat:Int) (fun x55=>
 WfPs Zux (x55,())->
 IfB (!x55)
 (Zxb line8 next2000000 K)
 (next16 ((IntKind.wrap .i64 (at7_1+1)),())))))
 (next2000000 (l5,at7_1,line8,end9,c0,c1,c2,c3,c4,c5,()))
def Zbpc (text0:List UInt8) (l5:List (Int×List UInt8×Int×UInt32×Int×Int)) (c0:Int) (c1:List UInt8) (c2:Int) (c3:Int) (c4:Int) (c5:Int) (line8:Int) (end9:Int) (next2000000:(List (Int×List UInt8×Int×UInt32×Int×Int)×Int×Int×Int×Int×List UInt8×Int×Int×Int×Int×Unit)->Prop) (at7_1:Int) (next16:(Int×Unit)->Prop) (K:List (Int×List UInt8×Int×UInt32×Int×Int)->Int->Int->Prop):Prop:=
 IfB (decide ((at7_1:Int)<(text0.length:Int)))
 ((0:Int) <= at7_1∧AtN text0 at7_1.toNat fun x49=>
 Zbel text0 l5 c0 c1 c2 c3 c4 c5 at7_1 line8 end9 next2000000 next16 (((x49.toNat:Int):Int) !=10) K)
 (Zbel text0 l5 c0 c1 c2 c3 c4 c5 at7_1 line8 end9 next2000000 next16 false K)
def Zrt (text0:List UInt8) (l5:List (Int×List UInt8×Int×UInt32×Int×Int)) (j2:Int) (j3:List UInt8) (j4:Int) (j5:Int) (j6:Int) (j7:Int) (line8:Int) (j9:Int) (j10:Bool) (next2000000:(List (Int×List UInt8×Int×UInt32×Int×Int)×Int×Int×Int×Int×List UInt8×Int×Int×Int×Int×Unit)->Prop) (K:List (Int×List UInt8×Int×UInt32×Int×Int)->Int->Int->Prop):Prop:=
 IfB (!j10)
 (Zxb line8 next2000000 K)
 (IfB (((l5.length:Int):Int)==4096)
 (K ([]:List (Int×List UInt8×Int×UInt32×Int×Int)) line8 3)
 (l5.length+([(j2,j3,j4,(ofI .u32 j5),j6,line8)]:List (Int×List UInt8×Int×UInt32×Int×Int)).length <= 2513169434820∧
 next2000000 ((l5++([(j2,j3,j4,(ofI .u32 j5),j6,line8)]:List (Int×List UInt8×Int×UInt32×Int×Int))),j9,line8,j9,j2,j3,j4,j5,j6,line8,())))
def Zlp (text0:List UInt8) (l5:List (Int×List UInt8×Int×UInt32×Int×Int)) (line8:Int) (next2000000:(List (Int×List UInt8×Int×UInt32×Int×Int)×Int×Int×Int×Int×List UInt8×Int×Int×Int×Int×Unit)->Prop) (j2:Int) (j3:List UInt8) (j4:Int) (j5:Int) (j6:Int) (j7:Int) (j9:Int) (j10:Bool) (K:List (Int×List UInt8×Int×UInt32×Int×Int)->Int->Int->Prop):Prop:=
 Zrt text0 l5 j2 j3 j4 j5 j6 j7 line8 j9 j10 next2000000 K
def Zru (text0:List UInt8) (l5:List (Int×List UInt8×Int×UInt32×Int×Int)) (c0:Int) (c1:List UInt8) (c2:Int) (c3:Int) (c4:Int) (c5:Int) (at7:Int) (line8:Int) (end9_1:Int) (next2000000:(List (Int×List UInt8×Int×UInt32×Int×Int)×Int×Int×Int×Int×List UInt8×Int×Int×Int×Int×Unit)->Prop) (next23:(Int×Unit)->Prop) (j11_1:Bool) (K:List (Int×List UInt8×Int×UInt32×Int×Int)->Int->Int->Prop):Prop:=
 IfB j11_1
 (next23 ((IntKind.wrap .i64 (end9_1+1)),()))
 ((0:Int) <= end9_1∧end9_1 <= (text0.length:Int)∧
 (0:Int) <= at7∧at7 <= (end9_1.toNat:Int)∧
 (WfPs Zya (((text0.take end9_1.toNat).drop at7.toNat),())->
 Zyb ((text0.take end9_1.toNat).drop at7.toNat) (fun x92r0 x92r1=>
 WfPs Zyc (x92r0,x92r1,())->
 Zlp text0 l5 line8 next2000000 x92r0.1 x92r0.2.1 x92r0.2.2.1 (x92r0.2.2.2.1.toNat:Int) x92r0.2.2.2.2.1 x92r0.2.2.2.2.2 end9_1 x92r1 K)))
def Zbpe (text0:List UInt8) (l5:List (Int×List UInt8×Int×UInt32×Int×Int)) (c0:Int) (c1:List UInt8) (c2:Int) (c3:Int) (c4:Int) (c5:Int) (at7:Int) (line8:Int) (next2000000:(List (Int×List UInt8×Int×UInt32×Int×Int)×Int×Int×Int×Int×List UInt8×Int×Int×Int×Int×Unit)->Prop) (end9_1:Int) (next23:(Int×Unit)->Prop) (K:List (Int×List UInt8×Int×UInt32×Int×Int)->Int->Int->Prop):Prop:=
 IfB (decide ((end9_1:Int)<(text0.length:Int)))
 ((0:Int) <= end9_1∧AtN text0 end9_1.toNat fun x82=>
 (WfPs Zrz ((x82.toNat:Int),())->
 Zsa (x82.toNat:Int) (fun x83=>
 WfPs Zsb (x83,())->
 Zru text0 l5 c0 c1 c2 c3 c4 c5 at7 line8 end9_1 next2000000 next23 x83 K)))
 (Zru text0 l5 c0 c1 c2 c3 c4 c5 at7 line8 end9_1 next2000000 next23 false K)
def Zbek (text0:List UInt8) (l5:List (Int×List UInt8×Int×UInt32×Int×Int)) (c0:Int) (c1:List UInt8) (c2:Int) (c3:Int) (c4:Int) (c5:Int) (at7:Int) (line8:Int) (end9:Int) (x22:UInt8) (next2000000:(List (Int×List UInt8×Int×UInt32×Int×Int)×Int×Int×Int×Int×List UInt8×Int×Int×Int×Int×Unit)->Prop) (j12:Bool) (K:List (Int×List UInt8×Int×UInt32×Int×Int)->Int->Int->Prop):Prop:=
 IfB j12
 (next2000000 (l5,(IntKind.wrap .i64 (at7+1)),line8,end9,c0,c1,c2,c3,c4,c5,()))
 (IfB (((x22.toNat:Int):Int)==35)
 (Zcn (Int×Unit) (at7,()) fun y next=>
 WfY Zblv.kinds y->
 Zbpc text0 l5 c0 c1 c2 c3 c4 c5 line8 end9 next2000000 y.1 next K)
 ((WfPs Zns (([123,125,40,41,59]:List UInt8),(x22.toNat:Int),())->
 Zhr ([123,125,40,41,59]:List UInt8) (x22.toNat:Int) (fun x61=>
 WfPs Znt (x61,())->
 IfB (decide ((x61:Int)≥0))
 ((0:Int) <= (IntKind.wrap .i64 (at7+1))∧(IntKind.wrap .i64 (at7+1)) <= (text0.length:Int)∧
 (0:Int) <= at7∧at7 <= ((IntKind.wrap .i64 (at7+1)).toNat:Int)∧
 Zlp text0 l5 line8 next2000000 6 ((text0.take ((IntKind.wrap .i64 (at7+1)).toNat)).drop at7.toNat) 0 0 0 0 (IntKind.wrap .i64 (at7+1)) true K)
 ((WfPs Zrz ((x22.toNat:Int),())->
 Zsa (x22.toNat:Int) (fun x73=>
 WfPs Zsb (x73,())->
 IfB x73
 (Zcn (Int×Unit) (at7,()) fun y next=>
 WfY Zblx.kinds y->
 Zbpe text0 l5 c0 c1 c2 c3 c4 c5 at7 line8 next2000000 y.1 next K)
 (Zlp text0 l5 line8 next2000000 c0 c1 c2 c3 c4 c5 end9 false K))))))))
def Zbpd (text0:List UInt8) (l5:List (Int×List UInt8×Int×UInt32×Int×Int)) (at7:Int) (line8:Int) (end9:Int) (c0:Int) (c1:List UInt8) (c2:Int) (c3:Int) (c4:Int) (c5:Int) (next2000000:(List (Int×List UInt8×Int×UInt32×Int×Int)×Int×Int×Int×Int×List UInt8×Int×Int×Int×Int×Unit)->Prop) (K:List (Int×List UInt8×Int×UInt32×Int×Int)->Int->Int->Prop):Prop:=
 IfB ((at7:Int)==(text0.length:Int))
 (K l5 0 0)
 ((0:Int) <= at7∧AtN text0 at7.toNat fun x22=>
 IfB (((x22.toNat:Int):Int)==10)
 (next2000000 (l5,(IntKind.wrap .i64 (at7+1)),(IntKind.wrap .i64 (line8+1)),end9,c0,c1,c2,c3,c4,c5,()))
 (IfB (((x22.toNat:Int):Int)==32)
 (Zbek text0 l5 c0 c1 c2 c3 c4 c5 at7 line8 end9 x22 next2000000 true K)
 (Zbek text0 l5 c0 c1 c2 c3 c4 c5 at7 line8 end9 x22 next2000000 (((x22.toNat:Int):Int)==9) K)))
def Zbem (text0:List UInt8) (K:List (Int×List UInt8×Int×UInt32×Int×Int)->Int->Int->Prop):Prop:=
 IfB (decide (((text0.length:Int):Int)>65536))
 (K ([]:List (Int×List UInt8×Int×UInt32×Int×Int)) 0 3)
 (Zcn (List (Int×List UInt8×Int×UInt32×Int×Int)×Int×Int×Int×Int×List UInt8×Int×Int×Int×Int×Unit) (([]:List (Int×List UInt8×Int×UInt32×Int×Int)),(0:Int),(1:Int),(0:Int),(0:Int),([]:List UInt8),(0:Int),(0:Int),(0:Int),(0:Int),()) fun y next=>
 WfY Zblw.kinds y->
 Zbpd text0 y.1 y.2.1 y.2.2.1 y.2.2.2.1 y.2.2.2.2.1 y.2.2.2.2.2.1 y.2.2.2.2.2.2.1 y.2.2.2.2.2.2.2.1 y.2.2.2.2.2.2.2.2.1 y.2.2.2.2.2.2.2.2.2.1 next K)
noncomputable def Zcei:Tab:=⟨[(Zth,Zbhb),(Ztj,Zzv),(Zto,Zbhl),(Zts,Zbho)],[]⟩
abbrev Zcgx (x:PkTs Zbpf) (K:PkTs Zbpg->Prop):Prop:=Zbem x.1 (fun r0 r1 r2=>K (r0,r1,r2,()))
theorem Zcgy:FnQ Tryz.prog Ztl Zbpf Zbpg Zcgx:=(Zel Zbxt (tab:=Zcei) ⟨⟨Zbvg,Zbhe,Zbvk,Zbvo,trivial⟩,trivial⟩ rfl).of_eq (by kernel_rfl)
def Zblu:PLoop:=⟨[(3,PK.row Zj [Kd.str]),(4,PK.int .i64)],[0],[]⟩
def Zcak:PPlan:=⟨[],[(3,Zblu)],[],[],[],[]⟩
theorem Zbxr:Known Tryz.prog Zpk Tryz.f23 Zcak.plan (Zde Tryz.f23):=by refine ⟨Tryz.func23,?_,?_,?_,?_,?_⟩<;>kernel_rfl
abbrev Zbjg:List Pk:=[Pk.int .u32]
abbrev Zbjh:List Pk:=[Pk.str]
def Zbbn (a0:Int) (l3:List (List UInt8)) (k4:Int) (next3:(List (List UInt8)×Int×Unit)->Prop) (K:List UInt8->Prop):Prop:=
 IfB (decide ((k4:Int)≥0))
 ((0:Int) <= (IntKind.wrap .i64 (8*k4))∧
 (WfPs Zjn ((IntKind.wrap .i64 (Zhz .u32 (Int.fdiv a0 (2^(min ((IntKind.wrap .i64 (8*k4)):Int).toNat (IntKind.bits .u32)))) 255)),())->
 Zey (IntKind.wrap .i64 (Zhz .u32 (Int.fdiv a0 (2^(min ((IntKind.wrap .i64 (8*k4)):Int).toNat (IntKind.bits .u32)))) 255)) (fun x16=>
 WfPs Zjo (x16,())->
 l3.length+([x16]:List (List UInt8)).length <= 8796093022112∧
 next3 ((l3++([x16]:List (List UInt8))),(IntKind.wrap .i64 (k4 - 1)),()))))
 ((WfPs Zwh (l3,([46]:List UInt8),())->
 Znu l3 ([46]:List UInt8) (fun x20=>
 WfPs Zwi (x20,())->
 K x20)))
def Zum (a0:Int) (K:List UInt8->Prop):Prop:=
 Zcn (List (List UInt8)×Int×Unit) (([]:List (List UInt8)),(3:Int),()) fun y next=>
 WfY Zblu.kinds y->
 Zbbn a0 y.1 y.2.1 next K
noncomputable def Zceg:Tab:=⟨[(Zek,Zmg),(Zit,Zzw)],[]⟩
abbrev Zbxe (x:PkTs Zbjg) (K:PkTs Zbjh->Prop):Prop:=Zum x.1 (fun r0=>K (r0,()))
theorem Zbxf:FnQ Tryz.prog Zpk Zbjg Zbjh Zbxe:=(Zel Zbxr (tab:=Zceg) ⟨⟨Zpe,Zbhf,trivial⟩,trivial⟩ rfl).of_eq (by kernel_rfl)
def Zbly:PLoop:=⟨[(3,PK.row Zj [Kd.str]),(8,PK.int .i64)],[1],[]⟩
def Zcan:PPlan:=⟨[(9,[0,3,4,1,2,5,6,7],[28])],[(5,Zbly)],[],[],[],[]⟩
theorem Zbxy:Known Tryz.prog Zpn Tryz.f159 Zcan.plan (Zde Tryz.f159):=by refine ⟨Tryz.func159,?_,?_,?_,?_,?_⟩<;>kernel_rfl
abbrev Zbpl:List Pk:=[Pk.agg [Kd.int .u32,Kd.int .i64]]
abbrev Zbpm:List Pk:=[Pk.str]
def Zben (p0:UInt32×Int) (l3:List (List UInt8)) (x8:Int) (next5:(List (List UInt8)×Int×Unit)->Prop) (K:List UInt8->Prop):Prop:=
 IfB (decide ((x8:Int)<4))
 ((0:Int) <= (IntKind.wrap .i64 (24 - (IntKind.wrap .i64 (8*x8))))∧
 (WfPs Zjn ((IntKind.wrap .i64 (Zhz .u32 (Int.fdiv (p0.1.toNat:Int) (2^(min ((IntKind.wrap .i64 (24 - (IntKind.wrap .i64 (8*x8)))):Int).toNat (IntKind.bits .u32)))) 255)),())->
 Zey (IntKind.wrap .i64 (Zhz .u32 (Int.fdiv (p0.1.toNat:Int) (2^(min ((IntKind.wrap .i64 (24 - (IntKind.wrap .i64 (8*x8)))):Int).toNat (IntKind.bits .u32)))) 255)) (fun x20=>
 WfPs Zjo (x20,())->
 l3.length+([x20]:List (List UInt8)).length <= 8796093022112∧
 next5 ((l3++([x20]:List (List UInt8))),(IntKind.wrap .i64 (x8+1)),()))))
 ((WfPs Zwh (l3,([46]:List UInt8),())->
 Znu l3 ([46]:List UInt8) (fun x25=>
 WfPs Zwi (x25,())->
 x25.length+([47]:List UInt8).length <= Zr∧
 (WfPs Zjn (p0.2,())->
 Zey p0.2 (fun x29=>
 WfPs Zjo (x29,())->
 (x25++([47]:List UInt8)).length+x29.length <= Zr∧
 K ((x25++([47]:List UInt8))++x29))))))
def Zbeo (p0:UInt32×Int) (K:List UInt8->Prop):Prop:=
 (WfPs Zsm ((((ofI .u32 (p0.1.toNat:Int)),p0.2):UInt32×Int),())->
 Zsn (((ofI .u32 (p0.1.toNat:Int)),p0.2):UInt32×Int) (fun x6=>
 WfPs Zso (x6,())->
 IfB (!x6)
 (K ([]:List UInt8))
 (Zcn (List (List UInt8)×Int×Unit) (([]:List (List UInt8)),(0:Int),()) fun y next=>
 WfY Zbly.kinds y->
 Zben p0 y.1 y.2.1 next K)))
noncomputable def Zcen:Tab:=⟨[(Zek,Zmg),(Zit,Zzw),(Zqb,Zbaa)],[]⟩
abbrev Zchd (x:PkTs Zbpl) (K:PkTs Zbpm->Prop):Prop:=Zbeo x.1 (fun r0=>K (r0,()))
theorem Zchf:FnQ Tryz.prog Zpn Zbpl Zbpm Zchd:=(Zel Zbxy (tab:=Zcen) ⟨⟨Zpe,Zbhf,Zbhs,trivial⟩,trivial⟩ rfl).of_eq (by kernel_rfl)
end Go.Proofs.YtlkdgfolbllngaaGreatDoor
