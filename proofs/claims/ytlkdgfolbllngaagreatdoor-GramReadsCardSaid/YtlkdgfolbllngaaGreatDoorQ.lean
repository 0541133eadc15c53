/-
  EACH FUNCTION OVER PLAIN DATA:printed by a program of ours over this translation.
-/
import Derived.Test.YtlkdgfolbllngaaGreatDoorBA
set_option linter.all false
set_option maxRecDepth 100000
set_option maxHeartbeats 4000000
namespace Go.Proofs.YtlkdgfolbllngaaGreatDoor
open Go.Sh
abbrev Zfq:PPlan:=⟨[],[],[],[],[],[]⟩
abbrev Zkx:List Kd:=[Kd.str]
theorem Zbxl:Known Tryz.prog Ztu Tryz.f40 Zfq.plan (Zbs Tryz.f40):=by refine ⟨Tryz.func40,?_,?_,?_,?_,?_⟩<;>kernel_rfl
abbrev Zvj:List Pk:=[Pk.int .u8]
abbrev Zvl:List Pk:=[Pk.bool]
def Zvk (c0:Int) (K:Bool->Prop):Prop:=
 IfB (decide ((c0:Int)≥32))
 (IfB (decide ((c0:Int) <= 126))
 (K true)
 (K ((c0:Int)==9)))
 (K ((c0:Int)==9))
noncomputable def Zceq:Tab:=⟨[],[]⟩
abbrev Zbkv (x:PkTs Zvj) (K:PkTs Zvl->Prop):Prop:=Zvk x.1 (fun r0=>K (r0,()))
theorem Zbyw:FnQ Tryz.prog Ztu Zvj Zvl Zbkv:=(Zcd Zbxl (tab:=Zceq) ⟨trivial,trivial⟩ rfl).of_eq (by kernel_rfl)
noncomputable def Zbhq:Ct:=ctRd Zvj Zvl Zbkv
theorem Zbve:Zbk Tryz.prog Ztu Zbhq:=Zck Zbyw
theorem Zbxu:Known Tryz.prog Zpt Tryz.f77 Zfq.plan (Zbs Tryz.f77):=by refine ⟨Tryz.func77,?_,?_,?_,?_,?_⟩<;>kernel_rfl
abbrev Zrx:List Pk:=[Pk.int .u8]
abbrev Zrz:List Pk:=[Pk.bool]
def Zry (c0:Int) (K:Bool->Prop):Prop:=
 IfB (decide (((Zfy .u8 c0 32):Int)≥97))
 (K (decide (((Zfy .u8 c0 32):Int) <= 122)))
 (K false)
noncomputable def Zcez:Tab:=⟨[],[]⟩
abbrev Zbpw (x:PkTs Zrx) (K:PkTs Zrz->Prop):Prop:=Zry x.1 (fun r0=>K (r0,()))
theorem Zcha:FnQ Tryz.prog Zpt Zrx Zrz Zbpw:=(Zcd Zbxu (tab:=Zcez) ⟨trivial,trivial⟩ rfl).of_eq (by kernel_rfl)
noncomputable def Zbao:Ct:=ctRd Zrx Zrz Zbpw
theorem Zbic:Zbk Tryz.prog Zpt Zbao:=Zck Zcha
theorem Zbya:Known Tryz.prog Zuh Tryz.f42 Zfq.plan (Zbs Tryz.f42):=by refine ⟨Tryz.func42,?_,?_,?_,?_,?_⟩<;>kernel_rfl
abbrev Zsi:List Pk:=[Pk.int .u8]
abbrev Zsk:List Pk:=[Pk.bool]
def Zsj (c0:Int) (K:Bool->Prop):Prop:=
 (WfPs Zrx (c0,())->
 Zry c0 (fun x4=>
 WfPs Zrz (x4,())->
 IfB x4
 (K true)
 (IfB (decide ((c0:Int)≥48))
 (IfB (decide ((c0:Int) <= 57))
 (K true)
 ((WfPs Znv (([95,45,46,58,47]:List UInt8),c0,())->
 Zib ([95,45,46,58,47]:List UInt8) c0 (fun x15=>
 WfPs Znw (x15,())->
 K (decide ((x15:Int)≥0))))))
 ((WfPs Znv (([95,45,46,58,47]:List UInt8),c0,())->
 Zib ([95,45,46,58,47]:List UInt8) c0 (fun x15_1=>
 WfPs Znw (x15_1,())->
 K (decide ((x15_1:Int)≥0))))))))
noncomputable def Zcff:Tab:=⟨[(Ztw,Zbal),(Zpt,Zbao)],[]⟩
abbrev Zbqd (x:PkTs Zsi) (K:PkTs Zsk->Prop):Prop:=Zsj x.1 (fun r0=>K (r0,()))
theorem Zchh:FnQ Tryz.prog Zuh Zsi Zsk Zbqd:=(Zcd Zbya (tab:=Zcff) ⟨⟨Zbht,Zbic,trivial⟩,trivial⟩ rfl).of_eq (by kernel_rfl)
noncomputable def Zbih:Ct:=ctRd Zsi Zsk Zbqd
theorem Zbvo:Zbk Tryz.prog Zuh Zbih:=Zck Zchh
theorem Zbxr:Known Tryz.prog Zps Tryz.f79 Zfq.plan (Zbs Tryz.f79):=by refine ⟨Tryz.func79,?_,?_,?_,?_,?_⟩<;>kernel_rfl
abbrev Zom:List Pk:=[Pk.str,Pk.int .i64]
abbrev Zoo:List Pk:=[Pk.int .i64,Pk.bool]
def Zon (s0:List UInt8) (most1:Int) (K:Int->Bool->Prop):Prop:=
 (WfPs Znr (s0,())->
 Zjv s0 (fun x10r0 x10r1=>
 WfPs Zns (x10r0,x10r1,())->
 IfB x10r1
 (IfB (decide ((x10r0:Int)≥0))
 (IfB (decide ((x10r0:Int) <= most1))
 ((WfPs Zrh (x10r0,())->
 Zjw x10r0 (fun x27=>
 WfPs Zri (x27,())->
 K x10r0 (x27==s0))))
 (K x10r0 false))
 (K x10r0 false))
 (K x10r0 false)))
noncomputable def Zcew:Tab:=⟨[(Zpr,Zto),(Zpq,Ztn)],[]⟩
abbrev Zbpt (x:PkTs Zom) (K:PkTs Zoo->Prop):Prop:=Zon x.1 x.2.1 (fun r0 r1=>K (r0,r1,()))
theorem Zcgx:FnQ Tryz.prog Zps Zom Zoo Zbpt:=(Zcd Zbxr (tab:=Zcew) ⟨⟨Zbaj,Zbai,trivial⟩,trivial⟩ rfl).of_eq (by kernel_rfl)
noncomputable def Zban:Ct:=ctRd Zom Zoo Zbpt
theorem Zbhz:Zbk Tryz.prog Zps Zban:=Zck Zcgx
theorem Zbxq:Known Tryz.prog Zub Tryz.f120 Zfq.plan (Zbs Tryz.f120):=by refine ⟨Tryz.func120,?_,?_,?_,?_,?_⟩<;>kernel_rfl
abbrev Zoj:List Pk:=[Pk.str]
abbrev Zol:List Pk:=[Pk.int .i64]
def Zxh (x7r0:Int) (j1:Bool) (K:Int->Prop):Prop:=
 IfB j1
 (K (-1))
 (K x7r0)
def Zok (s0:List UInt8) (K:Int->Prop):Prop:=
 (WfPs Znr (s0,())->
 Zjv s0 (fun x7r0 x7r1=>
 WfPs Zns (x7r0,x7r1,())->
 IfB (!x7r1)
 (Zxh x7r0 true K)
 ((WfPs Zrh (x7r0,())->
 Zjw x7r0 (fun x14=>
 WfPs Zri (x14,())->
 Zxh x7r0 (!(x14==s0)) K)))))
noncomputable def Zcev:Tab:=⟨[(Zpr,Zto),(Zpq,Ztn)],[]⟩
abbrev Zbps (x:PkTs Zoj) (K:PkTs Zol->Prop):Prop:=Zok x.1 (fun r0=>K (r0,()))
theorem Zcgw:FnQ Tryz.prog Zub Zoj Zol Zbps:=(Zcd Zbxq (tab:=Zcev) ⟨⟨Zbaj,Zbai,trivial⟩,trivial⟩ rfl).of_eq (by kernel_rfl)
noncomputable def Zbhy:Ct:=ctRd Zoj Zol Zbps
theorem Zbvj:Zbk Tryz.prog Zub Zbhy:=Zck Zcgw
theorem Zbye:Known Tryz.prog Zul Tryz.f147 Zfq.plan (Zbs Tryz.f147):=by refine ⟨Tryz.func147,?_,?_,?_,?_,?_⟩<;>kernel_rfl
abbrev Zyf:List Pk:=[Pk.int .u32,Pk.int .i64]
abbrev Zyh:List Pk:=[Pk.int .u32]
def Zyg (a0:Int) (n1:Int) (K:Int->Prop):Prop:=
 (0:Int) <= (IntKind.wrap .i64 (32 - n1))∧
 K (Zti .u32 a0 (IntKind.wrap .u32 (IntKind.wrap .u64 ((IntKind.wrap .u64 (1*(2^(min ((IntKind.wrap .i64 (32 - n1)):Int).toNat (IntKind.bits .u64))))) - 1))))
noncomputable def Zcfj:Tab:=⟨[],[]⟩
abbrev Zbqj (x:PkTs Zyf) (K:PkTs Zyh->Prop):Prop:=Zyg x.1 x.2.1 (fun r0=>K (r0,()))
theorem Zchn:FnQ Tryz.prog Zul Zyf Zyh Zbqj:=(Zcd Zbye (tab:=Zcfj) ⟨trivial,trivial⟩ rfl).of_eq (by kernel_rfl)
noncomputable def Zbil:Ct:=ctRd Zyf Zyh Zbqj
theorem Zbvs:Zbk Tryz.prog Zul Zbil:=Zck Zchn
def Zcas:PPlan:=⟨[(1,[0,1,2,3,4,5,6,7,8,9,10,11,12,14,15,13,16,17,18],[18])],[],[],[],[],[]⟩
theorem Zbyb:Known Tryz.prog Zui Tryz.f121 Zcas.plan (Zbs Tryz.f121):=by refine ⟨Tryz.func121,?_,?_,?_,?_,?_⟩<;>kernel_rfl
abbrev Zxv:List Pk:=[Pk.agg [Kd.int .u32,Kd.int .i64]]
abbrev Zxx:List Pk:=[Pk.bool]
def Zxw (p0:UInt32×Int) (K:Bool->Prop):Prop:=
 IfB (decide ((p0.2:Int)≥0))
 (IfB (decide ((p0.2:Int) <= 32))
 ((WfPs Zyf ((p0.1.toNat:Int),p0.2,())->
 Zyg (p0.1.toNat:Int) p0.2 (fun x16=>
 WfPs Zyh (x16,())->
 K ((x16:Int)==(p0.1.toNat:Int)))))
 (K false))
 (K false)
noncomputable def Zcfg:Tab:=⟨[(Zul,Zbil)],[]⟩
abbrev Zbqe (x:PkTs Zxv) (K:PkTs Zxx->Prop):Prop:=Zxw x.1 (fun r0=>K (r0,()))
theorem Zchi:FnQ Tryz.prog Zui Zxv Zxx Zbqe:=(Zcd Zbyb (tab:=Zcfg) ⟨⟨Zbvs,trivial⟩,trivial⟩ rfl).of_eq (by kernel_rfl)
noncomputable def Zbii:Ct:=ctRd Zxv Zxx Zbqe
theorem Zbvp:Zbk Tryz.prog Zui Zbii:=Zck Zchi
def Zbmz:PLoop:=⟨[(32,PK.int .i64)],[2,4,30,31],[(4,[PK.int .u32,PK.int .i64])]⟩
def Zcav:PPlan:=⟨[],[(7,Zbmz)],[],[],[],[]⟩
theorem Zbyh:Known Tryz.prog Zuo Tryz.f81 Zcav.plan (Zbs Tryz.f81):=by refine ⟨Tryz.func81,?_,?_,?_,?_,?_⟩<;>kernel_rfl
abbrev Zyx:List Pk:=[Pk.str]
abbrev Zyz:List Pk:=[Pk.agg [Kd.int .u32,Kd.int .i64],Pk.int .i64]
def Zbgb (K:(UInt32×Int)->Int->Prop):Prop:=
 K ((ofI .u32 0),0) 5
def Zbga (K:(UInt32×Int)->Int->Prop):Prop:=
 Zbgb K
def Zbgc (c0:Int) (c1:Int) (x37:Int) (x19:List (List UInt8)) (x32:Int) (next7:(Int×Int×Int×Unit)->Prop) (j8:Bool) (K:(UInt32×Int)->Int->Prop):Prop:=
 IfB j8
 (Zbga K)
 ((0:Int) <= 8∧
 next7 ((IntKind.wrap .i64 (x32+1)),(Zfy .u32 (IntKind.wrap .u32 (c0*256)) (IntKind.wrap .u32 x37)),c1,()))
def Zbgd (x21:Int) (x19:List (List UInt8)) (x32:Int) (c0:Int) (c1:Int) (next7:(Int×Int×Int×Unit)->Prop) (K:(UInt32×Int)->Int->Prop):Prop:=
 IfB (decide ((x32:Int)<(x19.length:Int)))
 ((0:Int) <= x32∧x32<(x19.length:Int)∧
 AtN x19 x32.toNat fun x35=>
 WfT Zkx x35->
 (WfPs Zoj (x35,())->
 Zok x35 (fun x37=>
 WfPs Zol (x37,())->
 IfB (decide ((x37:Int)<0))
 (Zbgc c0 c1 x37 x19 x32 next7 true K)
 (Zbgc c0 c1 x37 x19 x32 next7 (decide ((x37:Int)>255)) K))))
 ((WfPs Zxv ((((ofI .u32 c0),c1):UInt32×Int),())->
 Zxw (((ofI .u32 c0),c1):UInt32×Int) (fun x53=>
 WfPs Zxx (x53,())->
 IfB x53
 (K ((ofI .u32 c0),c1) 0)
 (Zbgb K))))
def Zln (x21:Int) (x19:List (List UInt8)) (j5:Bool) (K:(UInt32×Int)->Int->Prop):Prop:=
 IfB j5
 (Zbga K)
 (Zbr (Int×Int×Int×Unit) ((0:Int),(0:Int),x21,()) fun y next=>
 WfY Zbmz.kinds y->
 Zbgd x21 x19 y.1 y.2.1 y.2.2.1 next K)
def Zyy (s0:List UInt8) (K:(UInt32×Int)->Int->Prop):Prop:=
 (WfPs Zwo (s0,([47]:List UInt8),())->
 Znu s0 ([47]:List UInt8) (fun x14r0 x14r1 x14r2=>
 WfPs Zwp (x14r0,x14r1,x14r2,())->
 (WfPs Zrl (x14r0,([46]:List UInt8),())->
 Zlh x14r0 ([46]:List UInt8) (fun x19=>
 WfPs Zrm (x19,())->
 (WfPs Zoj (x14r1,())->
 Zok x14r1 (fun x21=>
 WfPs Zol (x21,())->
 IfB (!x14r2)
 (Zln x21 x19 true K)
 (Zln x21 x19 (((x19.length:Int):Int) !=4) K)))))))
noncomputable def Zcfm:Tab:=⟨[(Ztv,Zbak),(Ztx,Zbam),(Zub,Zbhy),(Zui,Zbii)],[]⟩
abbrev Zbre (x:PkTs Zyx) (K:PkTs Zyz->Prop):Prop:=Zyy x.1 (fun r0 r1=>K (r0,r1,()))
theorem Zcif:FnQ Tryz.prog Zuo Zyx Zyz Zbre:=(Zcd Zbyh (tab:=Zcfm) ⟨⟨Zbhs,Zbhu,Zbvj,Zbvp,trivial⟩,trivial⟩ rfl).of_eq (by kernel_rfl)
noncomputable def Zbio:Ct:=Zje Zyx Zyz Zbre
theorem Zbvw:Zbk Tryz.prog Zuo Zbio:=Zmb Zcif
theorem Zbyf:Known Tryz.prog Zum Tryz.f82 Zfq.plan (Zbs Tryz.f82):=by refine ⟨Tryz.func82,?_,?_,?_,?_,?_⟩<;>kernel_rfl
abbrev Zyi:List Pk:=[Pk.str]
abbrev Zyk:List Pk:=[Pk.int .i64,Pk.bool]
def Zyj (s0:List UInt8) (K:Int->Bool->Prop):Prop:=
 (WfPs Zwo (s0,([58]:List UInt8),())->
 Znu s0 ([58]:List UInt8) (fun x13r0 x13r1 x13r2=>
 WfPs Zwp (x13r0,x13r1,x13r2,())->
 (WfPs Zom (x13r0,(65535:Int),())->
 Zon x13r0 (65535:Int) (fun x19r0 x19r1=>
 WfPs Zoo (x19r0,x19r1,())->
 (WfPs Zom (x13r1,(65535:Int),())->
 Zon x13r1 (65535:Int) (fun x24r0 x24r1=>
 WfPs Zoo (x24r0,x24r1,())->
 (0:Int) <= 16∧
 IfB x19r1
 (K (Zfy .i64 (IntKind.wrap .i64 (x19r0*65536)) x24r0) x24r1)
 (K (Zfy .i64 (IntKind.wrap .i64 (x19r0*65536)) x24r0) false)))))))
noncomputable def Zcfk:Tab:=⟨[(Zps,Zban),(Ztv,Zbak)],[]⟩
abbrev Zbqk (x:PkTs Zyi) (K:PkTs Zyk->Prop):Prop:=Zyj x.1 (fun r0 r1=>K (r0,r1,()))
theorem Zcho:FnQ Tryz.prog Zum Zyi Zyk Zbqk:=(Zcd Zbyf (tab:=Zcfk) ⟨⟨Zbhz,Zbhs,trivial⟩,trivial⟩ rfl).of_eq (by kernel_rfl)
noncomputable def Zbim:Ct:=ctRd Zyi Zyk Zbqk
theorem Zbvt:Zbk Tryz.prog Zum Zbim:=Zck Zcho
theorem Zbxv:Known Tryz.prog Zue Tryz.f122 Zfq.plan (Zbs Tryz.f122):=by refine ⟨Tryz.func122,?_,?_,?_,?_,?_⟩<;>kernel_rfl
abbrev Zxo:List Pk:=[Pk.str]
abbrev Zxq:List Pk:=[Pk.int .i64]
def Zsa (x7r0:Int) (j1:Bool) (K:Int->Prop):Prop:=
 IfB j1
 (K (-1))
 (K x7r0)
def Zxp (s0:List UInt8) (K:Int->Prop):Prop:=
 (WfPs Znr (s0,())->
 Zjv s0 (fun x7r0 x7r1=>
 WfPs Zns (x7r0,x7r1,())->
 IfB (!x7r1)
 (Zsa x7r0 true K)
 (IfB (decide ((x7r0:Int)>255))
 (Zsa x7r0 true K)
 ((WfPs Zrh (x7r0,())->
 Zjw x7r0 (fun x18=>
 WfPs Zri (x18,())->
 Zsa x7r0 (!(x18==s0)) K))))))
noncomputable def Zcfa:Tab:=⟨[(Zpr,Zto),(Zpq,Ztn)],[]⟩
abbrev Zbpx (x:PkTs Zxo) (K:PkTs Zxq->Prop):Prop:=Zxp x.1 (fun r0=>K (r0,()))
theorem Zchb:FnQ Tryz.prog Zue Zxo Zxq Zbpx:=(Zcd Zbxv (tab:=Zcfa) ⟨⟨Zbaj,Zbai,trivial⟩,trivial⟩ rfl).of_eq (by kernel_rfl)
noncomputable def Zbid:Ct:=ctRd Zxo Zxq Zbpx
theorem Zbvm:Zbk Tryz.prog Zue Zbid:=Zck Zchb
def Zbmt:PLoop:=⟨[(5,PK.int .u32),(16,PK.int .i64)],[14,15],[]⟩
def Zcap:PPlan:=⟨[],[(6,Zbmt)],[],[],[],[]⟩
theorem Zbxs:Known Tryz.prog Zuc Tryz.f83 Zcap.plan (Zbs Tryz.f83):=by refine ⟨Tryz.func83,?_,?_,?_,?_,?_⟩<;>kernel_rfl
abbrev Zxi:List Pk:=[Pk.str]
abbrev Zxk:List Pk:=[Pk.int .u32,Pk.int .i64]
def Zbfn (x10:List (List UInt8)) (a5:Int) (x16:Int) (next6:(Int×Int×Unit)->Prop) (K:Int->Int->Prop):Prop:=
 IfB (decide ((x16:Int)<(x10.length:Int)))
 ((0:Int) <= x16∧x16<(x10.length:Int)∧
 AtN x10 x16.toNat fun x19=>
 WfT Zkx x19->
 (WfPs Zxo (x19,())->
 Zxp x19 (fun x21=>
 WfPs Zxq (x21,())->
 IfB (decide ((x21:Int)<0))
 (K 0 2)
 ((0:Int) <= 8∧
 next6 ((Zfy .u32 (IntKind.wrap .u32 (a5*256)) (IntKind.wrap .u32 x21)),(IntKind.wrap .i64 (x16+1)),())))))
 (K a5 0)
def Zxj (s0:List UInt8) (K:Int->Int->Prop):Prop:=
 (WfPs Zrl (s0,([46]:List UInt8),())->
 Zlh s0 ([46]:List UInt8) (fun x10=>
 WfPs Zrm (x10,())->
 IfB (((x10.length:Int):Int) !=4)
 (K 0 2)
 (Zbr (Int×Int×Unit) ((0:Int),(0:Int),()) fun y next=>
 WfY Zbmt.kinds y->
 Zbfn x10 y.1 y.2.1 next K)))
noncomputable def Zcex:Tab:=⟨[(Ztx,Zbam),(Zue,Zbid)],[]⟩
abbrev Zbpu (x:PkTs Zxi) (K:PkTs Zxk->Prop):Prop:=Zxj x.1 (fun r0 r1=>K (r0,r1,()))
theorem Zcgy:FnQ Tryz.prog Zuc Zxi Zxk Zbpu:=(Zcd Zbxs (tab:=Zcex) ⟨⟨Zbhu,Zbvm,trivial⟩,trivial⟩ rfl).of_eq (by kernel_rfl)
noncomputable def Zbia:Ct:=ctRd Zxi Zxk Zbpu
theorem Zbvk:Zbk Tryz.prog Zuc Zbia:=Zck Zcgy
def Zcan:PPlan:=⟨[(11,[0,1,2,3,4,5,6,7],[47])],[],[],[(11,[4])],[],[]⟩
theorem Zbxo:Known Tryz.prog Ztz Tryz.f43 Zcan.plan (Zbs Tryz.f43):=by refine ⟨Tryz.func43,?_,?_,?_,?_,?_⟩<;>kernel_rfl
abbrev Zxe:List Pk:=[Pk.str]
abbrev Zxg:List Pk:=[Pk.agg [Kd.int .i64,Kd.str,Kd.int .i64,Kd.int .u32,Kd.int .i64,Kd.int .i64],Pk.bool]
def Zgm (s0:List UInt8) (j6:Int) (j8:Int) (j9:Int) (j10:Int) (j12:Bool) (K:(Int×List UInt8×Int×UInt32×Int×Int)->Bool->Prop):Prop:=
 K (j6,s0,j8,(ofI .u32 j9),j10,0) j12
def Zxf (s0:List UInt8) (K:(Int×List UInt8×Int×UInt32×Int×Int)->Bool->Prop):Prop:=
 (WfPs Zwq (s0,([48,49,50,51,52,53,54,55,56,57]:List UInt8),())->
 Zrn s0 ([48,49,50,51,52,53,54,55,56,57]:List UInt8) (fun x14=>
 WfPs Zwr (x14,())->
 IfB (x14==([]:List UInt8))
 ((WfPs Zom (s0,(4294967295:Int),())->
 Zon s0 (4294967295:Int) (fun x35r0 x35r1=>
 WfPs Zoo (x35r0,x35r1,())->
 Zgm s0 2 x35r0 0 0 x35r1 K)))
 ((WfPs Zrj (s0,([47]:List UInt8),())->
 Znt s0 ([47]:List UInt8) (fun x41=>
 WfPs Zrk (x41,())->
 IfB x41
 ((WfPs Zyx (s0,())->
 Zyy s0 (fun x44r0 x44r1=>
 WfPs Zyz (x44r0,x44r1,())->
 Zgm s0 4 0 (x44r0.1.toNat:Int) x44r0.2 ((x44r1:Int)==0) K)))
 ((WfPs Zrj (s0,([58]:List UInt8),())->
 Znt s0 ([58]:List UInt8) (fun x54=>
 WfPs Zrk (x54,())->
 IfB x54
 ((WfPs Zyi (s0,())->
 Zyj s0 (fun x58r0 x58r1=>
 WfPs Zyk (x58r0,x58r1,())->
 Zgm s0 5 x58r0 0 0 x58r1 K)))
 ((WfPs Zwq (s0,([48,49,50,51,52,53,54,55,56,57,46]:List UInt8),())->
 Zrn s0 ([48,49,50,51,52,53,54,55,56,57,46]:List UInt8) (fun x64=>
 WfPs Zwr (x64,())->
 IfB (x64==([]:List UInt8))
 ((WfPs Zxi (s0,())->
 Zxj s0 (fun x68r0 x68r1=>
 WfPs Zxk (x68r0,x68r1,())->
 Zgm s0 3 (IntKind.wrap .i64 x68r0) 0 0 ((x68r1:Int)==0) K)))
 ((0:Int) <= 0∧AtN s0 0 fun x17=>
 (WfPs Zrx ((x17.toNat:Int),())->
 Zry (x17.toNat:Int) (fun x18=>
 WfPs Zrz (x18,())->
 IfB x18
 (IfB (decide (((s0.length:Int):Int) <= 32))
 ((WfPs Zrj (s0,([46]:List UInt8),())->
 Znt s0 ([46]:List UInt8) (fun x26=>
 WfPs Zrk (x26,())->
 Zgm s0 1 0 0 0 (!x26) K)))
 (Zgm s0 1 0 0 0 false K))
 (Zgm s0 1 0 0 0 false K)))))))))))))))
noncomputable def Zcet:Tab:=⟨[(Zpt,Zbao),(Zbba,Zbhv),(Zps,Zban),(Zbaz,Zbhr),(Zuo,Zbio),(Zum,Zbim),(Zuc,Zbia)],[]⟩
abbrev Zbpq (x:PkTs Zxe) (K:PkTs Zxg->Prop):Prop:=Zxf x.1 (fun r0 r1=>K (r0,r1,()))
theorem Zcgu:FnQ Tryz.prog Ztz Zxe Zxg Zbpq:=(Zcd Zbxo (tab:=Zcet) ⟨⟨Zbic,Zbvg,Zbhz,Zbvf,Zbvw,Zbvt,Zbvk,trivial⟩,trivial⟩ rfl).of_eq (by kernel_rfl)
noncomputable def Zbhw:Ct:=Zje Zxe Zxg Zbpq
theorem Zbvh:Zbk Tryz.prog Ztz Zbhw:=Zmb Zcgu
def Zbmp:PLoop:=⟨[(7,PK.int .i64)],[0,5,6,8,9],[]⟩
def Zbmr:PLoop:=⟨[(9,PK.int .i64)],[0,5,6,7,8],[]⟩
def Zbmq:PLoop:=⟨[(5,PK.row Zth [Kd.int .i64,Kd.str,Kd.int .i64,Kd.int .u32,Kd.int .i64,Kd.int .i64]),(7,PK.int .i64),(8,PK.int .i64),(9,PK.int .i64)],[0,6],[(6,[PK.int .i64,PK.str,PK.int .i64,PK.int .u32,PK.int .i64,PK.int .i64])]⟩
def Zcal:PPlan:=⟨[],[(16,Zbmp),(23,Zbmr),(2000000,Zbmq)],[],[],[],[]⟩
theorem Zbxm:Known Tryz.prog Zty Tryz.f14 Zcal.plan (Zbs Tryz.f14):=by refine ⟨Tryz.func14,?_,?_,?_,?_,?_⟩<;>kernel_rfl
abbrev Zbpo:List Pk:=[Pk.str]
abbrev Zbpp:List Pk:=[Pk.lst [Kd.int .i64,Kd.str,Kd.int .i64,Kd.int .u32,Kd.int .i64,Kd.int .i64],Pk.int .i64,Pk.int .i64]
def Zxd (line8:Int) (next2000000:(List (Int×List UInt8×Int×UInt32×Int×Int)×Int×Int×Int×Int×List UInt8×Int×Int×Int×Int×Unit)->Prop) (K:List (Int×List UInt8×Int×UInt32×Int×Int)->Int->Int->Prop):Prop:=
 K ([]:List (Int×List UInt8×Int×UInt32×Int×Int)) line8 240
def Zbfk (text0:List UInt8) (l5:List (Int×List UInt8×Int×UInt32×Int×Int)) (c0:Int) (c1:List UInt8) (c2:Int) (c3:Int) (c4:Int) (c5:Int) (at7_1:Int) (line8:Int) (end9:Int) (next2000000:(List (Int×List UInt8×Int×UInt32×Int×Int)×Int×Int×Int×Int×List UInt8×Int×Int×Int×Int×Unit)->Prop) (next16:(Int×Unit)->Prop) (j11:Bool) (K:List (Int×List UInt8×Int×UInt32×Int×Int)->Int->Int->Prop):Prop:=
 IfB j11
 ((0:Int) <= at7_1∧AtN text0 at7_1.toNat fun x54=>
 (WfPs Zvj ((x54.toNat:Int),())->
 Zvk (x54.toNat:Int) (fun x55=>
 WfPs Zvl (x55,())->
 IfB (!x55)
 (Zxd line8 next2000000 K)
 (next16 ((IntKind.wrap .i64 (at7_1+1)),())))))
 (next2000000 (l5,at7_1,line8,end9,c0,c1,c2,c3,c4,c5,()))
def Zbpl (text0:List UInt8) (l5:List (Int×List UInt8×Int×UInt32×Int×Int)) (c0:Int) (c1:List UInt8) (c2:Int) (c3:Int) (c4:Int) (c5:Int) (line8:Int) (end9:Int) (next2000000:(List (Int×List UInt8×Int×UInt32×Int×Int)×Int×Int×Int×Int×List UInt8×Int×Int×Int×Int×Unit)->Prop) (at7_1:Int) (next16:(Int×Unit)->Prop) (K:List (Int×List UInt8×Int×UInt32×Int×Int)->Int->Int->Prop):Prop:=
 IfB (decide ((at7_1:Int)<(text0.length:Int)))
 ((0:Int) <= at7_1∧AtN text0 at7_1.toNat fun x49=>
 Zbfk text0 l5 c0 c1 c2 c3 c4 c5 at7_1 line8 end9 next2000000 next16 (((x49.toNat:Int):Int) !=10) K)
 (Zbfk text0 l5 c0 c1 c2 c3 c4 c5 at7_1 line8 end9 next2000000 next16 false K)
def Zrv (text0:List UInt8) (l5:List (Int×List UInt8×Int×UInt32×Int×Int)) (j2:Int) (j3:List UInt8) (j4:Int) (j5:Int) (j6:Int) (j7:Int) (line8:Int) (j9:Int) (j10:Bool) (next2000000:(List (Int×List UInt8×Int×UInt32×Int×Int)×Int×Int×Int×Int×List UInt8×Int×Int×Int×Int×Unit)->Prop) (K:List (Int×List UInt8×Int×UInt32×Int×Int)->Int->Int->Prop):Prop:=
 IfB (!j10)
 (Zxd line8 next2000000 K)
 (IfB (((l5.length:Int):Int)==4096)
 (K ([]:List (Int×List UInt8×Int×UInt32×Int×Int)) line8 3)
 (l5.length+([(j2,j3,j4,(ofI .u32 j5),j6,line8)]:List (Int×List UInt8×Int×UInt32×Int×Int)).length <= 2513169434820∧
 next2000000 ((l5++([(j2,j3,j4,(ofI .u32 j5),j6,line8)]:List (Int×List UInt8×Int×UInt32×Int×Int))),j9,line8,j9,j2,j3,j4,j5,j6,line8,())))
def Zll (text0:List UInt8) (l5:List (Int×List UInt8×Int×UInt32×Int×Int)) (line8:Int) (next2000000:(List (Int×List UInt8×Int×UInt32×Int×Int)×Int×Int×Int×Int×List UInt8×Int×Int×Int×Int×Unit)->Prop) (j2:Int) (j3:List UInt8) (j4:Int) (j5:Int) (j6:Int) (j7:Int) (j9:Int) (j10:Bool) (K:List (Int×List UInt8×Int×UInt32×Int×Int)->Int->Int->Prop):Prop:=
 Zrv text0 l5 j2 j3 j4 j5 j6 j7 line8 j9 j10 next2000000 K
def Zrw (text0:List UInt8) (l5:List (Int×List UInt8×Int×UInt32×Int×Int)) (c0:Int) (c1:List UInt8) (c2:Int) (c3:Int) (c4:Int) (c5:Int) (at7:Int) (line8:Int) (end9_1:Int) (next2000000:(List (Int×List UInt8×Int×UInt32×Int×Int)×Int×Int×Int×Int×List UInt8×Int×Int×Int×Int×Unit)->Prop) (next23:(Int×Unit)->Prop) (j11_1:Bool) (K:List (Int×List UInt8×Int×UInt32×Int×Int)->Int->Int->Prop):Prop:=
 IfB j11_1
 (next23 ((IntKind.wrap .i64 (end9_1+1)),()))
 ((0:Int) <= end9_1∧end9_1 <= (text0.length:Int)∧
 (0:Int) <= at7∧at7 <= (end9_1.toNat:Int)∧
 (WfPs Zxe (((text0.take end9_1.toNat).drop at7.toNat),())->
 Zxf ((text0.take end9_1.toNat).drop at7.toNat) (fun x92r0 x92r1=>
 WfPs Zxg (x92r0,x92r1,())->
 Zll text0 l5 line8 next2000000 x92r0.1 x92r0.2.1 x92r0.2.2.1 (x92r0.2.2.2.1.toNat:Int) x92r0.2.2.2.2.1 x92r0.2.2.2.2.2 end9_1 x92r1 K)))
def Zbpn (text0:List UInt8) (l5:List (Int×List UInt8×Int×UInt32×Int×Int)) (c0:Int) (c1:List UInt8) (c2:Int) (c3:Int) (c4:Int) (c5:Int) (at7:Int) (line8:Int) (next2000000:(List (Int×List UInt8×Int×UInt32×Int×Int)×Int×Int×Int×Int×List UInt8×Int×Int×Int×Int×Unit)->Prop) (end9_1:Int) (next23:(Int×Unit)->Prop) (K:List (Int×List UInt8×Int×UInt32×Int×Int)->Int->Int->Prop):Prop:=
 IfB (decide ((end9_1:Int)<(text0.length:Int)))
 ((0:Int) <= end9_1∧AtN text0 end9_1.toNat fun x82=>
 (WfPs Zsi ((x82.toNat:Int),())->
 Zsj (x82.toNat:Int) (fun x83=>
 WfPs Zsk (x83,())->
 Zrw text0 l5 c0 c1 c2 c3 c4 c5 at7 line8 end9_1 next2000000 next23 x83 K)))
 (Zrw text0 l5 c0 c1 c2 c3 c4 c5 at7 line8 end9_1 next2000000 next23 false K)
def Zbfj (text0:List UInt8) (l5:List (Int×List UInt8×Int×UInt32×Int×Int)) (c0:Int) (c1:List UInt8) (c2:Int) (c3:Int) (c4:Int) (c5:Int) (at7:Int) (line8:Int) (end9:Int) (x22:UInt8) (next2000000:(List (Int×List UInt8×Int×UInt32×Int×Int)×Int×Int×Int×Int×List UInt8×Int×Int×Int×Int×Unit)->Prop) (j12:Bool) (K:List (Int×List UInt8×Int×UInt32×Int×Int)->Int->Int->Prop):Prop:=
 IfB j12
 (next2000000 (l5,(IntKind.wrap .i64 (at7+1)),line8,end9,c0,c1,c2,c3,c4,c5,()))
 (IfB (((x22.toNat:Int):Int)==35)
 (Zbr (Int×Unit) (at7,()) fun y next=>
 WfY Zbmp.kinds y->
 Zbpl text0 l5 c0 c1 c2 c3 c4 c5 line8 end9 next2000000 y.1 next K)
 ((WfPs Znv (([123,125,40,41,59]:List UInt8),(x22.toNat:Int),())->
 Zib ([123,125,40,41,59]:List UInt8) (x22.toNat:Int) (fun x61=>
 WfPs Znw (x61,())->
 IfB (decide ((x61:Int)≥0))
 ((0:Int) <= (IntKind.wrap .i64 (at7+1))∧(IntKind.wrap .i64 (at7+1)) <= (text0.length:Int)∧
 (0:Int) <= at7∧at7 <= ((IntKind.wrap .i64 (at7+1)).toNat:Int)∧
 Zll text0 l5 line8 next2000000 6 ((text0.take ((IntKind.wrap .i64 (at7+1)).toNat)).drop at7.toNat) 0 0 0 0 (IntKind.wrap .i64 (at7+1)) true K)
 ((WfPs Zsi ((x22.toNat:Int),())->
 Zsj (x22.toNat:Int) (fun x73=>
 WfPs Zsk (x73,())->
 IfB x73
 (Zbr (Int×Unit) (at7,()) fun y next=>
 WfY Zbmr.kinds y->
 Zbpn text0 l5 c0 c1 c2 c3 c4 c5 at7 line8 next2000000 y.1 next K)
 (Zll text0 l5 line8 next2000000 c0 c1 c2 c3 c4 c5 end9 false K))))))))
def Zbpm (text0:List UInt8) (l5:List (Int×List UInt8×Int×UInt32×Int×Int)) (at7:Int) (line8:Int) (end9:Int) (c0:Int) (c1:List UInt8) (c2:Int) (c3:Int) (c4:Int) (c5:Int) (next2000000:(List (Int×List UInt8×Int×UInt32×Int×Int)×Int×Int×Int×Int×List UInt8×Int×Int×Int×Int×Unit)->Prop) (K:List (Int×List UInt8×Int×UInt32×Int×Int)->Int->Int->Prop):Prop:=
 IfB ((at7:Int)==(text0.length:Int))
 (K l5 0 0)
 ((0:Int) <= at7∧AtN text0 at7.toNat fun x22=>
 IfB (((x22.toNat:Int):Int)==10)
 (next2000000 (l5,(IntKind.wrap .i64 (at7+1)),(IntKind.wrap .i64 (line8+1)),end9,c0,c1,c2,c3,c4,c5,()))
 (IfB (((x22.toNat:Int):Int)==32)
 (Zbfj text0 l5 c0 c1 c2 c3 c4 c5 at7 line8 end9 x22 next2000000 true K)
 (Zbfj text0 l5 c0 c1 c2 c3 c4 c5 at7 line8 end9 x22 next2000000 (((x22.toNat:Int):Int)==9) K)))
def Zbfl (text0:List UInt8) (K:List (Int×List UInt8×Int×UInt32×Int×Int)->Int->Int->Prop):Prop:=
 IfB (decide (((text0.length:Int):Int)>65536))
 (K ([]:List (Int×List UInt8×Int×UInt32×Int×Int)) 0 3)
 (Zbr (List (Int×List UInt8×Int×UInt32×Int×Int)×Int×Int×Int×Int×List UInt8×Int×Int×Int×Int×Unit) (([]:List (Int×List UInt8×Int×UInt32×Int×Int)),(0:Int),(1:Int),(0:Int),(0:Int),([]:List UInt8),(0:Int),(0:Int),(0:Int),(0:Int),()) fun y next=>
 WfY Zbmq.kinds y->
 Zbpm text0 y.1 y.2.1 y.2.2.1 y.2.2.2.1 y.2.2.2.2.1 y.2.2.2.2.2.1 y.2.2.2.2.2.2.1 y.2.2.2.2.2.2.2.1 y.2.2.2.2.2.2.2.2.1 y.2.2.2.2.2.2.2.2.2.1 next K)
noncomputable def Zcer:Tab:=⟨[(Ztu,Zbhq),(Ztw,Zbal),(Zuh,Zbih),(Ztz,Zbhw)],[]⟩
abbrev Zcgs (x:PkTs Zbpo) (K:PkTs Zbpp->Prop):Prop:=Zbfl x.1 (fun r0 r1 r2=>K (r0,r1,r2,()))
theorem Zcgt:FnQ Tryz.prog Zty Zbpo Zbpp Zcgs:=(Zcd Zbxm (tab:=Zcer) ⟨⟨Zbve,Zbht,Zbvo,Zbvh,trivial⟩,trivial⟩ rfl).of_eq (by kernel_rfl)
theorem Zbyg:Known Tryz.prog Zun Tryz.f50 Zfq.plan (Zbs Tryz.f50):=by refine ⟨Tryz.func50,?_,?_,?_,?_,?_⟩<;>kernel_rfl
abbrev Zyl:List Pk:=[Pk.int .u8]
abbrev Zyn:List Pk:=[Pk.bool]
def Zym (c0:Int) (K:Bool->Prop):Prop:=
 IfB ((c0:Int)==123)
 (K true)
 (IfB ((c0:Int)==125)
 (K true)
 (IfB ((c0:Int)==40)
 (K true)
 (IfB ((c0:Int)==41)
 (K true)
 (K ((c0:Int)==59)))))
noncomputable def Zcfl:Tab:=⟨[],[]⟩
abbrev Zbql (x:PkTs Zyl) (K:PkTs Zyn->Prop):Prop:=Zym x.1 (fun r0=>K (r0,()))
theorem Zchp:FnQ Tryz.prog Zun Zyl Zyn Zbql:=(Zcd Zbyg (tab:=Zcfl) ⟨trivial,trivial⟩ rfl).of_eq (by kernel_rfl)
noncomputable def Zbin:Ct:=ctRd Zyl Zyn Zbql
theorem Zbvu:Zbk Tryz.prog Zun Zbin:=Zck Zchp
theorem Zbxw:Known Tryz.prog Zpu Tryz.f88 Zfq.plan (Zbs Tryz.f88):=by refine ⟨Tryz.func88,?_,?_,?_,?_,?_⟩<;>kernel_rfl
abbrev Zsb:List Pk:=[Pk.int .u8]
abbrev Zsd:List Pk:=[Pk.bool]
def Zsc (c0:Int) (K:Bool->Prop):Prop:=
 IfB (decide ((c0:Int)≥48))
 (K (decide ((c0:Int) <= 57)))
 (K false)
noncomputable def Zcfb:Tab:=⟨[],[]⟩
abbrev Zbpy (x:PkTs Zsb) (K:PkTs Zsd->Prop):Prop:=Zsc x.1 (fun r0=>K (r0,()))
theorem Zchc:FnQ Tryz.prog Zpu Zsb Zsd Zbpy:=(Zcd Zbxw (tab:=Zcfb) ⟨trivial,trivial⟩ rfl).of_eq (by kernel_rfl)
noncomputable def Zbap:Ct:=ctRd Zsb Zsd Zbpy
theorem Zbie:Zbk Tryz.prog Zpu Zbap:=Zck Zchc
theorem Zbxx:Known Tryz.prog Zpv Tryz.f89 Zfq.plan (Zbs Tryz.f89):=by refine ⟨Tryz.func89,?_,?_,?_,?_,?_⟩<;>kernel_rfl
abbrev Zse:List Pk:=[Pk.int .u8]
abbrev Zsg:List Pk:=[Pk.bool]
def Zsf (c0:Int) (K:Bool->Prop):Prop:=
 IfB (decide ((c0:Int)≥97))
 (IfB (decide ((c0:Int) <= 122))
 (K true)
 (IfB (decide ((c0:Int)≥65))
 (K (decide ((c0:Int) <= 90)))
 (K false)))
 (IfB (decide ((c0:Int)≥65))
 (K (decide ((c0:Int) <= 90)))
 (K false))
noncomputable def Zcfc:Tab:=⟨[],[]⟩
abbrev Zbpz (x:PkTs Zse) (K:PkTs Zsg->Prop):Prop:=Zsf x.1 (fun r0=>K (r0,()))
theorem Zchd:FnQ Tryz.prog Zpv Zse Zsg Zbpz:=(Zcd Zbxx (tab:=Zcfc) ⟨trivial,trivial⟩ rfl).of_eq (by kernel_rfl)
noncomputable def Zbaq:Ct:=ctRd Zse Zsg Zbpz
theorem Zbif:Zbk Tryz.prog Zpv Zbaq:=Zck Zchd
theorem Zbyi:Known Tryz.prog Zup Tryz.f51 Zfq.plan (Zbs Tryz.f51):=by refine ⟨Tryz.func51,?_,?_,?_,?_,?_⟩<;>kernel_rfl
abbrev Zyp:List Pk:=[Pk.int .u8]
abbrev Zyr:List Pk:=[Pk.bool]
def Zyq (c0:Int) (K:Bool->Prop):Prop:=
 (WfPs Zsb (c0,())->
 Zsc c0 (fun x4=>
 WfPs Zsd (x4,())->
 IfB x4
 (K true)
 ((WfPs Zse (c0,())->
 Zsf c0 (fun x7=>
 WfPs Zsg (x7,())->
 IfB x7
 (K true)
 (IfB ((c0:Int)==95)
 (K true)
 (IfB ((c0:Int)==45)
 (K true)
 (IfB ((c0:Int)==46)
 (K true)
 (IfB ((c0:Int)==58)
 (K true)
 (K ((c0:Int)==47)))))))))))
noncomputable def Zcfn:Tab:=⟨[(Zpu,Zbap),(Zpv,Zbaq)],[]⟩
abbrev Zbqr (x:PkTs Zyp) (K:PkTs Zyr->Prop):Prop:=Zyq x.1 (fun r0=>K (r0,()))
theorem Zchs:FnQ Tryz.prog Zup Zyp Zyr Zbqr:=(Zcd Zbyi (tab:=Zcfn) ⟨⟨Zbie,Zbif,trivial⟩,trivial⟩ rfl).of_eq (by kernel_rfl)
noncomputable def Zbip:Ct:=ctRd Zyp Zyr Zbqr
theorem Zbvv:Zbk Tryz.prog Zup Zbip:=Zck Zchs
def Zbnc:PLoop:=⟨[(5,PK.int .i64)],[0,1],[]⟩
def Zcay:PPlan:=⟨[],[(2,Zbnc)],[],[],[],[]⟩
theorem Zbyl:Known Tryz.prog Zuv Tryz.f90 Zcay.plan (Zbs Tryz.f90):=by refine ⟨Tryz.func90,?_,?_,?_,?_,?_⟩<;>kernel_rfl
abbrev Zsy:List Pk:=[Pk.str,Pk.int .u8]
abbrev Zta:List Pk:=[Pk.bool]
def Zbgr (s0:List UInt8) (other1:Int) (i5:Int) (next2:(Int×Unit)->Prop) (j3:Bool) (K:Bool->Prop):Prop:=
 IfB j3
 (K false)
 (next2 ((IntKind.wrap .i64 (i5+1)),()))
def Zbgs (s0:List UInt8) (other1:Int) (i5:Int) (next2:(Int×Unit)->Prop) (K:Bool->Prop):Prop:=
 IfB (decide ((i5:Int)<(s0.length:Int)))
 ((0:Int) <= i5∧AtN s0 i5.toNat fun x14=>
 (WfPs Zsb ((x14.toNat:Int),())->
 Zsc (x14.toNat:Int) (fun x15=>
 WfPs Zsd (x15,())->
 IfB (!x15)
 ((0:Int) <= i5∧AtN s0 i5.toNat fun x20=>
 Zbgr s0 other1 i5 next2 (((x20.toNat:Int):Int) !=other1) K)
 (Zbgr s0 other1 i5 next2 false K))))
 (K true)
def Zsz (s0:List UInt8) (other1:Int) (K:Bool->Prop):Prop:=
 Zbr (Int×Unit) ((0:Int),()) fun y next=>
 WfY Zbnc.kinds y->
 Zbgs s0 other1 y.1 next K
noncomputable def Zcfq:Tab:=⟨[(Zpu,Zbap)],[]⟩
abbrev Zbtu (x:PkTs Zsy) (K:PkTs Zta->Prop):Prop:=Zsz x.1 x.2.1 (fun r0=>K (r0,()))
theorem Zckp:FnQ Tryz.prog Zuv Zsy Zta Zbtu:=(Zcd Zbyl (tab:=Zcfq) ⟨⟨Zbie,trivial⟩,trivial⟩ rfl).of_eq (by kernel_rfl)
noncomputable def Zbir:Ct:=ctRd Zsy Zta Zbtu
theorem Zbvx:Zbk Tryz.prog Zuv Zbir:=Zck Zckp
def Zbmv:PLoop:=⟨[(6,PK.int .i64),(7,PK.int .i64)],[0],[]⟩
def Zcam:PPlan:=⟨[],[(5,Zbmv)],[],[],[],[]⟩
theorem Zbxn:Known Tryz.prog Zmf Tryz.f91 Zcam.plan (Zbs Tryz.f91):=by refine ⟨Tryz.func91,?_,?_,?_,?_,?_⟩<;>kernel_rfl
abbrev Zjz:List Pk:=[Pk.str,Pk.int .i64]
abbrev Zkb:List Pk:=[Pk.int .i64,Pk.bool]
def Zxr (s0:List UInt8) (n6:Int) (i7:Int) (next5:(Int×Int×Unit)->Prop) (j3:Bool) (K:Int->Bool->Prop):Prop:=
 IfB j3
 (K 0 false)
 ((0:Int) <= i7∧AtN s0 i7.toNat fun x46=>
 next5 ((IntKind.wrap .i64 ((IntKind.wrap .i64 (10*n6))+(IntKind.wrap .i64 (IntKind.wrap .u8 ((x46.toNat:Int) - 48))))),(IntKind.wrap .i64 (i7+1)),()))
def Zbfp (s0:List UInt8) (n6:Int) (i7:Int) (next5:(Int×Int×Unit)->Prop) (K:Int->Bool->Prop):Prop:=
 IfB (decide ((i7:Int)<(s0.length:Int)))
 ((0:Int) <= i7∧AtN s0 i7.toNat fun x34=>
 IfB (decide (((x34.toNat:Int):Int)<48))
 (Zxr s0 n6 i7 next5 true K)
 ((0:Int) <= i7∧AtN s0 i7.toNat fun x39=>
 Zxr s0 n6 i7 next5 (decide (((x39.toNat:Int):Int)>57)) K))
 (K n6 true)
def Zop (s0:List UInt8) (j1:Bool) (K:Int->Bool->Prop):Prop:=
 IfB j1
 (K 0 false)
 (Zbr (Int×Int×Unit) ((0:Int),(0:Int),()) fun y next=>
 WfY Zbmv.kinds y->
 Zbfp s0 y.1 y.2.1 next K)
def Zka (s0:List UInt8) (most1:Int) (K:Int->Bool->Prop):Prop:=
 IfB (s0==([]:List UInt8))
 (Zop s0 true K)
 (IfB (decide (((s0.length:Int):Int)>most1))
 (Zop s0 true K)
 (IfB (decide (((s0.length:Int):Int)>1))
 ((0:Int) <= 0∧AtN s0 0 fun x22=>
 Zop s0 (((x22.toNat:Int):Int)==48) K)
 (Zop s0 false K)))
noncomputable def Zces:Tab:=⟨[],[]⟩
abbrev Zbqa (x:PkTs Zjz) (K:PkTs Zkb->Prop):Prop:=Zka x.1 x.2.1 (fun r0 r1=>K (r0,r1,()))
theorem Zche:FnQ Tryz.prog Zmf Zjz Zkb Zbqa:=(Zcd Zbxn (tab:=Zces) ⟨trivial,trivial⟩ rfl).of_eq (by kernel_rfl)
noncomputable def Ztp:Ct:=ctRd Zjz Zkb Zbqa
theorem Zbar:Zbk Tryz.prog Zmf Ztp:=Zck Zche
def Zbms:PLoop:=⟨[(5,PK.int .i64)],[0,1],[]⟩
def Zcao:PPlan:=⟨[],[(2,Zbms)],[],[],[],[]⟩
theorem Zbxp:Known Tryz.prog Zua Tryz.f92 Zcao.plan (Zbs Tryz.f92):=by refine ⟨Tryz.func92,?_,?_,?_,?_,?_⟩<;>kernel_rfl
abbrev Zog:List Pk:=[Pk.str,Pk.int .u8]
abbrev Zoi:List Pk:=[Pk.bool]
def Zbfm (s0:List UInt8) (c1:Int) (i5:Int) (next2:(Int×Unit)->Prop) (K:Bool->Prop):Prop:=
 IfB (decide ((i5:Int)<(s0.length:Int)))
 ((0:Int) <= i5∧AtN s0 i5.toNat fun x14=>
 IfB (((x14.toNat:Int):Int)==c1)
 (K true)
 (next2 ((IntKind.wrap .i64 (i5+1)),())))
 (K false)
def Zoh (s0:List UInt8) (c1:Int) (K:Bool->Prop):Prop:=
 Zbr (Int×Unit) ((0:Int),()) fun y next=>
 WfY Zbms.kinds y->
 Zbfm s0 c1 y.1 next K
noncomputable def Zceu:Tab:=⟨[],[]⟩
abbrev Zbpr (x:PkTs Zog) (K:PkTs Zoi->Prop):Prop:=Zoh x.1 x.2.1 (fun r0=>K (r0,()))
theorem Zcgv:FnQ Tryz.prog Zua Zog Zoi Zbpr:=(Zcd Zbxp (tab:=Zceu) ⟨trivial,trivial⟩ rfl).of_eq (by kernel_rfl)
noncomputable def Zbhx:Ct:=ctRd Zog Zoi Zbpr
theorem Zbvi:Zbk Tryz.prog Zua Zbhx:=Zck Zcgv
def Zbna:PLoop:=⟨[(5,PK.row Zcv [Kd.str]),(6,PK.int .i64),(7,PK.int .i64)],[0,1],[]⟩
def Zcaw:PPlan:=⟨[],[(4,Zbna)],[],[],[],[]⟩
theorem Zbyj:Known Tryz.prog Zmh Tryz.f94 Zcaw.plan (Zbs Tryz.f94):=by refine ⟨Tryz.func94,?_,?_,?_,?_,?_⟩<;>kernel_rfl
abbrev Zot:List Pk:=[Pk.str,Pk.int .u8]
abbrev Zov:List Pk:=[Pk.own Zcv [Kd.str]]
def Zzc (s0:List UInt8) (c1:Int) (i7:Int) (next4:(List (List UInt8)×Int×Int×Unit)->Prop) (j2:List (List UInt8)) (j3:Int) (K:List (List UInt8)->Prop):Prop:=
 next4 (j2,j3,(IntKind.wrap .i64 (i7+1)),())
def Zbgg (s0:List UInt8) (c1:Int) (out5:List (List UInt8)) (from6:Int) (i7:Int) (next4:(List (List UInt8)×Int×Int×Unit)->Prop) (K:List (List UInt8)->Prop):Prop:=
 IfB (decide ((i7:Int)<(s0.length:Int)))
 ((0:Int) <= i7∧AtN s0 i7.toNat fun x17=>
 IfB (((x17.toNat:Int):Int)==c1)
 ((0:Int) <= i7∧i7 <= (s0.length:Int)∧
 (0:Int) <= from6∧from6 <= (i7.toNat:Int)∧
 out5.length+([((s0.take i7.toNat).drop from6.toNat)]:List (List UInt8)).length <= 8796093022112∧
 Zzc s0 c1 i7 next4 (out5++([((s0.take i7.toNat).drop from6.toNat)]:List (List UInt8))) (IntKind.wrap .i64 (i7+1)) K)
 (Zzc s0 c1 i7 next4 out5 from6 K))
 ((0:Int) <= from6∧from6 <= (s0.length:Int)∧
 out5.length+([(s0.drop from6.toNat)]:List (List UInt8)).length <= 8796093022112∧
 K (out5++([(s0.drop from6.toNat)]:List (List UInt8))))
def Zou (s0:List UInt8) (c1:Int) (K:List (List UInt8)->Prop):Prop:=
 Zbr (List (List UInt8)×Int×Int×Unit) (([]:List (List UInt8)),(0:Int),(0:Int),()) fun y next=>
 WfY Zbna.kinds y->
 Zbgg s0 c1 y.1 y.2.1 y.2.2.1 next K
noncomputable def Zcfo:Tab:=⟨[],[]⟩
abbrev Zbrz (x:PkTs Zot) (K:PkTs Zov->Prop):Prop:=Zou x.1 x.2.1 (fun r0=>K (r0,()))
theorem Zciv:FnQ Tryz.prog Zmh Zot Zov Zbrz:=(Zcd Zbyj (tab:=Zcfo) ⟨trivial,trivial⟩ rfl).of_eq (by kernel_rfl)
noncomputable def Ztq:Ct:=Zje Zot Zov Zbrz
theorem Zbas:Zbk Tryz.prog Zmh Ztq:=Zmb Zciv
def Zbnb:PLoop:=⟨[(5,PK.int .u32),(6,PK.int .i64)],[4],[]⟩
def Zcax:PPlan:=⟨[],[(8,Zbnb)],[],[],[],[]⟩
theorem Zbyk:Known Tryz.prog Zqf Tryz.f95 Zcax.plan (Zbs Tryz.f95):=by refine ⟨Tryz.func95,?_,?_,?_,?_,?_⟩<;>kernel_rfl
abbrev Zsv:List Pk:=[Pk.str]
abbrev Zsx:List Pk:=[Pk.int .u32,Pk.int .i64]
def Zbgp (x13:List (List UInt8)) (a5:Int) (i6:Int) (x26r0:Int) (next8:(Int×Int×Unit)->Prop) (j4:Bool) (K:Int->Int->Prop):Prop:=
 IfB j4
 (K 0 2)
 (next8 ((IntKind.wrap .u32 ((IntKind.wrap .u32 (256*a5))+(IntKind.wrap .u32 x26r0))),(IntKind.wrap .i64 (i6+1)),()))
def Zbgq (x13:List (List UInt8)) (a5:Int) (i6:Int) (next8:(Int×Int×Unit)->Prop) (K:Int->Int->Prop):Prop:=
 IfB (decide ((i6:Int)<4))
 ((0:Int) <= i6∧i6<(x13.length:Int)∧
 AtN x13 i6.toNat fun x25=>
 WfT Zkx x25->
 (WfPs Zjz (x25,(3:Int),())->
 Zka x25 (3:Int) (fun x26r0 x26r1=>
 WfPs Zkb (x26r0,x26r1,())->
 IfB (!x26r1)
 (Zbgp x13 a5 i6 x26r0 next8 true K)
 (Zbgp x13 a5 i6 x26r0 next8 (decide ((x26r0:Int)>255)) K))))
 (K a5 0)
def Zsw (s0:List UInt8) (K:Int->Int->Prop):Prop:=
 IfB (decide (((s0.length:Int):Int)>15))
 (K 0 2)
 ((WfPs Zot (s0,(46:Int),())->
 Zou s0 (46:Int) (fun x13=>
 WfPs Zov (x13,())->
 IfB (((x13.length:Int):Int) !=4)
 (K 0 2)
 (Zbr (Int×Int×Unit) ((0:Int),(0:Int),()) fun y next=>
 WfY Zbnb.kinds y->
 Zbgq x13 y.1 y.2.1 next K))))
noncomputable def Zcfp:Tab:=⟨[(Zmf,Ztp),(Zmh,Ztq)],[]⟩
abbrev Zbtp (x:PkTs Zsv) (K:PkTs Zsx->Prop):Prop:=Zsw x.1 (fun r0 r1=>K (r0,r1,()))
theorem Zckk:FnQ Tryz.prog Zqf Zsv Zsx Zbtp:=(Zcd Zbyk (tab:=Zcfp) ⟨⟨Zbar,Zbas,trivial⟩,trivial⟩ rfl).of_eq (by kernel_rfl)
noncomputable def Zbat:Ct:=ctRd Zsv Zsx Zbtp
theorem Zbiq:Zbk Tryz.prog Zqf Zbat:=Zck Zckk
def Zbmu:PLoop:=⟨[(3,PK.int .u64),(4,PK.int .i64)],[],[]⟩
def Zcaq:PPlan:=⟨[],[(3,Zbmu)],[],[],[],[]⟩
theorem Zbxt:Known Tryz.prog Zud Tryz.f151 Zcaq.plan (Zbs Tryz.f151):=by refine ⟨Tryz.func151,?_,?_,?_,?_,?_⟩<;>kernel_rfl
abbrev Zxl:List Pk:=[Pk.int .i64]
abbrev Zxn:List Pk:=[Pk.int .u64]
def Zbfo (s3:Int) (i4:Int) (next3:(Int×Int×Unit)->Prop) (K:Int->Prop):Prop:=
 IfB (decide ((i4:Int)<32))
 (next3 ((IntKind.wrap .u64 (2*s3)),(IntKind.wrap .i64 (i4+1)),()))
 (K s3)
def Zxm (n0:Int) (K:Int->Prop):Prop:=
 Zbr (Int×Int×Unit) ((1:Int),(max n0 0),()) fun y next=>
 WfY Zbmu.kinds y->
 Zbfo y.1 y.2.1 next K
noncomputable def Zcey:Tab:=⟨[],[]⟩
abbrev Zbpv (x:PkTs Zxl) (K:PkTs Zxn->Prop):Prop:=Zxm x.1 (fun r0=>K (r0,()))
theorem Zcgz:FnQ Tryz.prog Zud Zxl Zxn Zbpv:=(Zcd Zbxt (tab:=Zcey) ⟨trivial,trivial⟩ rfl).of_eq (by kernel_rfl)
noncomputable def Zbib:Ct:=ctRd Zxl Zxn Zbpv
theorem Zbvl:Zbk Tryz.prog Zud Zbib:=Zck Zcgz
def Zcat:PPlan:=⟨[(1,[0,1,2,3,4,5,6,7,8,9,10,11,12,13,14,15,16,17,18],[13])],[],[],[],[],[]⟩
theorem Zbyc:Known Tryz.prog Zuj Tryz.f125 Zcat.plan (Zbs Tryz.f125):=by refine ⟨Tryz.func125,?_,?_,?_,?_,?_⟩<;>kernel_rfl
abbrev Zxy:List Pk:=[Pk.agg [Kd.int .u32,Kd.int .i64]]
abbrev Zya:List Pk:=[Pk.bool]
def Zxz (p0:UInt32×Int) (K:Bool->Prop):Prop:=
 IfB (decide ((p0.2:Int)≥0))
 (IfB (decide ((p0.2:Int) <= 32))
 ((WfPs Zxl (p0.2,())->
 Zxm p0.2 (fun x17=>
 WfPs Zxn (x17,())->
 (x17:Int)≠0∧
 K (((Int.tmod (IntKind.wrap .u64 (p0.1.toNat:Int)) x17):Int)==0))))
 (K false))
 (K false)
noncomputable def Zcfh:Tab:=⟨[(Zud,Zbib)],[]⟩
abbrev Zbqf (x:PkTs Zxy) (K:PkTs Zya->Prop):Prop:=Zxz x.1 (fun r0=>K (r0,()))
theorem Zchj:FnQ Tryz.prog Zuj Zxy Zya Zbqf:=(Zcd Zbyc (tab:=Zcfh) ⟨⟨Zbvl,trivial⟩,trivial⟩ rfl).of_eq (by kernel_rfl)
noncomputable def Zbij:Ct:=ctRd Zxy Zya Zbqf
theorem Zbvq:Zbk Tryz.prog Zuj Zbij:=Zck Zchj
theorem Zbxz:Known Tryz.prog Zug Tryz.f93 Zfq.plan (Zbs Tryz.f93):=by refine ⟨Tryz.func93,?_,?_,?_,?_,?_⟩<;>kernel_rfl
abbrev Zxs:List Pk:=[Pk.str]
abbrev Zxu:List Pk:=[Pk.agg [Kd.int .u32,Kd.int .i64],Pk.int .i64]
def Zsh (x24r0:Int) (x31r0:Int) (j4:Bool) (K:(UInt32×Int)->Int->Prop):Prop:=
 IfB j4
 (K ((ofI .u32 0),0) 5)
 (K ((ofI .u32 x24r0),x31r0) 0)
def Zxt (s0:List UInt8) (K:(UInt32×Int)->Int->Prop):Prop:=
 IfB (decide (((s0.length:Int):Int)>18))
 (K ((ofI .u32 0),0) 5)
 ((WfPs Zot (s0,(47:Int),())->
 Zou s0 (47:Int) (fun x15=>
 WfPs Zov (x15,())->
 IfB (((x15.length:Int):Int) !=2)
 (K ((ofI .u32 0),0) 5)
 ((0:Int) <= 0∧0<(x15.length:Int)∧
 AtN x15 0 fun x23=>
 WfT Zkx x23->
 (WfPs Zsv (x23,())->
 Zsw x23 (fun x24r0 x24r1=>
 WfPs Zsx (x24r0,x24r1,())->
 (0:Int) <= 1∧1<(x15.length:Int)∧
 AtN x15 1 fun x30=>
 WfT Zkx x30->
 (WfPs Zjz (x30,(2:Int),())->
 Zka x30 (2:Int) (fun x31r0 x31r1=>
 WfPs Zkb (x31r0,x31r1,())->
 IfB ((x24r1:Int) !=0)
 (Zsh x24r0 x31r0 true K)
 (IfB (!x31r1)
 (Zsh x24r0 x31r0 true K)
 ((WfPs Zxy ((((ofI .u32 x24r0),x31r0):UInt32×Int),())->
 Zxz (((ofI .u32 x24r0),x31r0):UInt32×Int) (fun x45=>
 WfPs Zya (x45,())->
 Zsh x24r0 x31r0 (!x45) K))))))))))))
noncomputable def Zcfe:Tab:=⟨[(Zmf,Ztp),(Zmh,Ztq),(Zqf,Zbat),(Zuj,Zbij)],[]⟩
abbrev Zbqb (x:PkTs Zxs) (K:PkTs Zxu->Prop):Prop:=Zxt x.1 (fun r0 r1=>K (r0,r1,()))
theorem Zchf:FnQ Tryz.prog Zug Zxs Zxu Zbqb:=(Zcd Zbxz (tab:=Zcfe) ⟨⟨Zbar,Zbas,Zbiq,Zbvq,trivial⟩,trivial⟩ rfl).of_eq (by kernel_rfl)
noncomputable def Zbig:Ct:=Zje Zxs Zxu Zbqb
theorem Zbvn:Zbk Tryz.prog Zug Zbig:=Zmb Zchf
def Zcau:PPlan:=⟨[(8,[0,1,2,3,4],[41]),(23,[0,1,2,3,4,5,6,7,8,9,10,11,12,13,14,15],[103])],[],[],[(8,[4]),(23,[2])],[],[]⟩
theorem Zbyd:Known Tryz.prog Zuk Tryz.f52 Zcau.plan (Zbs Tryz.f52):=by refine ⟨Tryz.func52,?_,?_,?_,?_,?_⟩<;>kernel_rfl
abbrev Zyb:List Pk:=[Pk.str]
abbrev Zyd:List Pk:=[Pk.agg [Kd.int .i64,Kd.str,Kd.int .i64,Kd.int .u32,Kd.int .i64,Kd.int .i64],Pk.bool]
def Zyc (s0:List UInt8) (K:(Int×List UInt8×Int×UInt32×Int×Int)->Bool->Prop):Prop:=
 (WfPs Zsy (s0,(48:Int),())->
 Zsz s0 (48:Int) (fun x19=>
 WfPs Zta (x19,())->
 IfB x19
 ((WfPs Zjz (s0,(10:Int),())->
 Zka s0 (10:Int) (fun x22r0 x22r1=>
 WfPs Zkb (x22r0,x22r1,())->
 IfB x22r1
 (K (2,s0,x22r0,(ofI .u32 0),0,0) (decide ((x22r0:Int) <= 4294967295)))
 (K (2,s0,x22r0,(ofI .u32 0),0,0) false))))
 ((WfPs Zog (s0,(47:Int),())->
 Zoh s0 (47:Int) (fun x35=>
 WfPs Zoi (x35,())->
 IfB x35
 ((WfPs Zxs (s0,())->
 Zxt s0 (fun x38r0 x38r1=>
 WfPs Zxu (x38r0,x38r1,())->
 K (4,s0,0,(ofI .u32 (x38r0.1.toNat:Int)),x38r0.2,0) ((x38r1:Int)==0))))
 ((WfPs Zog (s0,(58:Int),())->
 Zoh s0 (58:Int) (fun x48=>
 WfPs Zoi (x48,())->
 IfB x48
 ((WfPs Zot (s0,(58:Int),())->
 Zou s0 (58:Int) (fun x50=>
 WfPs Zov (x50,())->
 IfB (((x50.length:Int):Int) !=2)
 (K (0,s0,0,(ofI .u32 0),0,0) false)
 ((0:Int) <= 0∧0<(x50.length:Int)∧
 AtN x50 0 fun x58=>
 WfT Zkx x58->
 (WfPs Zjz (x58,(5:Int),())->
 Zka x58 (5:Int) (fun x59r0 x59r1=>
 WfPs Zkb (x59r0,x59r1,())->
 (0:Int) <= 1∧1<(x50.length:Int)∧
 AtN x50 1 fun x65=>
 WfT Zkx x65->
 (WfPs Zjz (x65,(5:Int),())->
 Zka x65 (5:Int) (fun x66r0 x66r1=>
 WfPs Zkb (x66r0,x66r1,())->
 IfB x59r1
 (IfB x66r1
 (IfB (decide ((x59r0:Int) <= 65535))
 (K (5,s0,(IntKind.wrap .i64 ((IntKind.wrap .i64 (65536*x59r0))+x66r0)),(ofI .u32 0),0,0) (decide ((x66r0:Int) <= 65535)))
 (K (5,s0,(IntKind.wrap .i64 ((IntKind.wrap .i64 (65536*x59r0))+x66r0)),(ofI .u32 0),0,0) false))
 (K (5,s0,(IntKind.wrap .i64 ((IntKind.wrap .i64 (65536*x59r0))+x66r0)),(ofI .u32 0),0,0) false))
 (K (5,s0,(IntKind.wrap .i64 ((IntKind.wrap .i64 (65536*x59r0))+x66r0)),(ofI .u32 0),0,0) false)))))))))
 ((WfPs Zsy (s0,(46:Int),())->
 Zsz s0 (46:Int) (fun x89=>
 WfPs Zta (x89,())->
 IfB x89
 ((WfPs Zsv (s0,())->
 Zsw s0 (fun x92r0 x92r1=>
 WfPs Zsx (x92r0,x92r1,())->
 K (3,s0,(IntKind.wrap .i64 x92r0),(ofI .u32 0),0,0) ((x92r1:Int)==0))))
 ((0:Int) <= 0∧AtN s0 0 fun x105=>
 (WfPs Zse ((x105.toNat:Int),())->
 Zsf (x105.toNat:Int) (fun x106=>
 WfPs Zsg (x106,())->
 IfB x106
 ((WfPs Zog (s0,(46:Int),())->
 Zoh s0 (46:Int) (fun x109=>
 WfPs Zoi (x109,())->
 IfB (!x109)
 (K (1,s0,0,(ofI .u32 0),0,0) (decide (((s0.length:Int):Int) <= 32)))
 (K (1,s0,0,(ofI .u32 0),0,0) false))))
 (K (1,s0,0,(ofI .u32 0),0,0) false)))))))))))))))
noncomputable def Zcfi:Tab:=⟨[(Zpv,Zbaq),(Zuv,Zbir),(Zmf,Ztp),(Zua,Zbhx),(Zug,Zbig),(Zmh,Ztq),(Zqf,Zbat)],[]⟩
abbrev Zbqg (x:PkTs Zyb) (K:PkTs Zyd->Prop):Prop:=Zyc x.1 (fun r0 r1=>K (r0,r1,()))
theorem Zchk:FnQ Tryz.prog Zuk Zyb Zyd Zbqg:=(Zcd Zbyd (tab:=Zcfi) ⟨⟨Zbif,Zbvx,Zbar,Zbvi,Zbvn,Zbas,Zbiq,trivial⟩,trivial⟩ rfl).of_eq (by kernel_rfl)
noncomputable def Zbik:Ct:=Zje Zyb Zyd Zbqg
theorem Zbvr:Zbk Tryz.prog Zuk Zbik:=Zmb Zchk
def Zbmy:PLoop:=⟨[(5,PK.row Zth [Kd.int .i64,Kd.str,Kd.int .i64,Kd.int .u32,Kd.int .i64,Kd.int .i64]),(6,PK.int .i64),(7,PK.int .i64)],[0],[]⟩
def Zbmw:PLoop:=⟨[(7,PK.int .i64)],[0,5,6],[]⟩
def Zbmx:PLoop:=⟨[(10,PK.int .i64)],[0,5,6,7,9],[]⟩
def Zcar:PPlan:=⟨[],[(6,Zbmy),(14,Zbmw),(22,Zbmx)],[],[],[],[]⟩
theorem Zbxy:Known Tryz.prog Zuf Tryz.f17 Zcar.plan (Zbs Tryz.f17):=by refine ⟨Tryz.func17,?_,?_,?_,?_,?_⟩<;>kernel_rfl
abbrev Zbqp:List Pk:=[Pk.str]
abbrev Zbqq:List Pk:=[Pk.lst [Kd.int .i64,Kd.str,Kd.int .i64,Kd.int .u32,Kd.int .i64,Kd.int .i64],Pk.int .i64,Pk.int .i64]
def Zbfs (text0:List UInt8) (out5:List (Int×List UInt8×Int×UInt32×Int×Int)) (line6:Int) (i7_1:Int) (next6:(List (Int×List UInt8×Int×UInt32×Int×Int)×Int×Int×Unit)->Prop) (next14:(Int×Unit)->Prop) (K:List (Int×List UInt8×Int×UInt32×Int×Int)->Int->Int->Prop):Prop:=
 next14 ((IntKind.wrap .i64 (i7_1+1)),())
def Zoq (text0:List UInt8) (out5:List (Int×List UInt8×Int×UInt32×Int×Int)) (line6:Int) (i7_1:Int) (next6:(List (Int×List UInt8×Int×UInt32×Int×Int)×Int×Int×Unit)->Prop) (next14:(Int×Unit)->Prop) (j4_1:Bool) (K:List (Int×List UInt8×Int×UInt32×Int×Int)->Int->Int->Prop):Prop:=
 IfB j4_1
 (K ([]:List (Int×List UInt8×Int×UInt32×Int×Int)) line6 240)
 (Zbfs text0 out5 line6 i7_1 next6 next14 K)
def Zbfr (text0:List UInt8) (out5:List (Int×List UInt8×Int×UInt32×Int×Int)) (line6:Int) (i7_1:Int) (next6:(List (Int×List UInt8×Int×UInt32×Int×Int)×Int×Int×Unit)->Prop) (next14:(Int×Unit)->Prop) (j4:Bool) (K:List (Int×List UInt8×Int×UInt32×Int×Int)->Int->Int->Prop):Prop:=
 IfB j4
 ((0:Int) <= i7_1∧AtN text0 i7_1.toNat fun x52=>
 IfB (decide (((x52.toNat:Int):Int)<32))
 ((0:Int) <= i7_1∧AtN text0 i7_1.toNat fun x63=>
 Zoq text0 out5 line6 i7_1 next6 next14 (((x63.toNat:Int):Int) !=9) K)
 ((0:Int) <= i7_1∧AtN text0 i7_1.toNat fun x57=>
 IfB (decide (((x57.toNat:Int):Int)>126))
 ((0:Int) <= i7_1∧AtN text0 i7_1.toNat fun x63_1=>
 Zoq text0 out5 line6 i7_1 next6 next14 (((x63_1.toNat:Int):Int) !=9) K)
 (Zoq text0 out5 line6 i7_1 next6 next14 false K)))
 (next6 (out5,line6,i7_1,()))
def Zbqm (text0:List UInt8) (out5:List (Int×List UInt8×Int×UInt32×Int×Int)) (line6:Int) (next6:(List (Int×List UInt8×Int×UInt32×Int×Int)×Int×Int×Unit)->Prop) (i7_1:Int) (next14:(Int×Unit)->Prop) (K:List (Int×List UInt8×Int×UInt32×Int×Int)->Int->Int->Prop):Prop:=
 IfB (decide ((i7_1:Int)<(text0.length:Int)))
 ((0:Int) <= i7_1∧AtN text0 i7_1.toNat fun x47=>
 Zbfr text0 out5 line6 i7_1 next6 next14 (((x47.toNat:Int):Int) !=10) K)
 (Zbfr text0 out5 line6 i7_1 next6 next14 false K)
def Zyo (text0:List UInt8) (out5:List (Int×List UInt8×Int×UInt32×Int×Int)) (line6:Int) (i7:Int) (next6:(List (Int×List UInt8×Int×UInt32×Int×Int)×Int×Int×Unit)->Prop) (j4_2:Int) (j5_1:List UInt8) (j6:Int) (j7:Int) (j8:Int) (j9:Int) (j10:Int) (K:List (Int×List UInt8×Int×UInt32×Int×Int)->Int->Int->Prop):Prop:=
 IfB (decide (((out5.length:Int):Int)≥4096))
 (K ([]:List (Int×List UInt8×Int×UInt32×Int×Int)) line6 3)
 (out5.length+([(j4_2,j5_1,j6,(ofI .u32 j7),j8,line6)]:List (Int×List UInt8×Int×UInt32×Int×Int)).length <= 2513169434820∧
 next6 ((out5++([(j4_2,j5_1,j6,(ofI .u32 j7),j8,line6)]:List (Int×List UInt8×Int×UInt32×Int×Int))),line6,(IntKind.wrap .i64 (i7+j10)),()))
def Zsl (text0:List UInt8) (out5:List (Int×List UInt8×Int×UInt32×Int×Int)) (line6:Int) (i7:Int) (n10:Int) (next6:(List (Int×List UInt8×Int×UInt32×Int×Int)×Int×Int×Unit)->Prop) (next22:(Int×Unit)->Prop) (j11:Bool) (K:List (Int×List UInt8×Int×UInt32×Int×Int)->Int->Int->Prop):Prop:=
 IfB j11
 (next22 ((IntKind.wrap .i64 (n10+1)),()))
 (IfB ((n10:Int)==0)
 (K ([]:List (Int×List UInt8×Int×UInt32×Int×Int)) line6 240)
 ((0:Int) <= (IntKind.wrap .i64 (i7+n10))∧(IntKind.wrap .i64 (i7+n10)) <= (text0.length:Int)∧
 (0:Int) <= i7∧i7 <= ((IntKind.wrap .i64 (i7+n10)).toNat:Int)∧
 (WfPs Zyb (((text0.take ((IntKind.wrap .i64 (i7+n10)).toNat)).drop i7.toNat),())->
 Zyc ((text0.take ((IntKind.wrap .i64 (i7+n10)).toNat)).drop i7.toNat) (fun x104r0 x104r1=>
 WfPs Zyd (x104r0,x104r1,())->
 IfB (!x104r1)
 (K ([]:List (Int×List UInt8×Int×UInt32×Int×Int)) line6 240)
 (Zyo text0 out5 line6 i7 next6 x104r0.1 x104r0.2.1 x104r0.2.2.1 (x104r0.2.2.2.1.toNat:Int) x104r0.2.2.2.2.1 x104r0.2.2.2.2.2 n10 K)))))
def Zbqn (text0:List UInt8) (out5:List (Int×List UInt8×Int×UInt32×Int×Int)) (line6:Int) (i7:Int) (next6:(List (Int×List UInt8×Int×UInt32×Int×Int)×Int×Int×Unit)->Prop) (n10:Int) (next22:(Int×Unit)->Prop) (K:List (Int×List UInt8×Int×UInt32×Int×Int)->Int->Int->Prop):Prop:=
 IfB (decide (((IntKind.wrap .i64 (i7+n10)):Int)<(text0.length:Int)))
 ((0:Int) <= (IntKind.wrap .i64 (i7+n10))∧AtN text0 (IntKind.wrap .i64 (i7+n10)).toNat fun x89=>
 (WfPs Zyp ((x89.toNat:Int),())->
 Zyq (x89.toNat:Int) (fun x90=>
 WfPs Zyr (x90,())->
 Zsl text0 out5 line6 i7 n10 next6 next22 x90 K)))
 (Zsl text0 out5 line6 i7 n10 next6 next22 false K)
def Zbfq (text0:List UInt8) (out5:List (Int×List UInt8×Int×UInt32×Int×Int)) (line6:Int) (i7:Int) (x23:UInt8) (next6:(List (Int×List UInt8×Int×UInt32×Int×Int)×Int×Int×Unit)->Prop) (j5:Bool) (K:List (Int×List UInt8×Int×UInt32×Int×Int)->Int->Int->Prop):Prop:=
 IfB j5
 (next6 (out5,line6,(IntKind.wrap .i64 (i7+1)),()))
 (IfB (((x23.toNat:Int):Int)==35)
 (Zbr (Int×Unit) (i7,()) fun y next=>
 WfY Zbmw.kinds y->
 Zbqm text0 out5 line6 next6 y.1 next K)
 ((0:Int) <= (IntKind.wrap .i64 (i7+1))∧(IntKind.wrap .i64 (i7+1)) <= (text0.length:Int)∧
 (0:Int) <= i7∧i7 <= ((IntKind.wrap .i64 (i7+1)).toNat:Int)∧
 (WfPs Zyl ((x23.toNat:Int),())->
 Zym (x23.toNat:Int) (fun x76=>
 WfPs Zyn (x76,())->
 IfB (!x76)
 (Zbr (Int×Unit) ((0:Int),()) fun y next=>
 WfY Zbmx.kinds y->
 Zbqn text0 out5 line6 i7 next6 y.1 next K)
 (Zyo text0 out5 line6 i7 next6 6 ((text0.take ((IntKind.wrap .i64 (i7+1)).toNat)).drop i7.toNat) 0 0 0 0 1 K)))))
def Zbqo (text0:List UInt8) (out5:List (Int×List UInt8×Int×UInt32×Int×Int)) (line6:Int) (i7:Int) (next6:(List (Int×List UInt8×Int×UInt32×Int×Int)×Int×Int×Unit)->Prop) (K:List (Int×List UInt8×Int×UInt32×Int×Int)->Int->Int->Prop):Prop:=
 IfB (decide ((i7:Int)<(text0.length:Int)))
 ((0:Int) <= i7∧AtN text0 i7.toNat fun x23=>
 IfB (((x23.toNat:Int):Int)==10)
 (next6 (out5,(IntKind.wrap .i64 (line6+1)),(IntKind.wrap .i64 (i7+1)),()))
 (IfB (((x23.toNat:Int):Int)==32)
 (Zbfq text0 out5 line6 i7 x23 next6 true K)
 (Zbfq text0 out5 line6 i7 x23 next6 (((x23.toNat:Int):Int)==9) K)))
 (K out5 0 0)
def Zbft (text0:List UInt8) (K:List (Int×List UInt8×Int×UInt32×Int×Int)->Int->Int->Prop):Prop:=
 IfB (decide (((text0.length:Int):Int)>65536))
 (K ([]:List (Int×List UInt8×Int×UInt32×Int×Int)) 0 3)
 (Zbr (List (Int×List UInt8×Int×UInt32×Int×Int)×Int×Int×Unit) (([]:List (Int×List UInt8×Int×UInt32×Int×Int)),(1:Int),(0:Int),()) fun y next=>
 WfY Zbmy.kinds y->
 Zbqo text0 y.1 y.2.1 y.2.2.1 next K)
noncomputable def Zcfd:Tab:=⟨[(Zun,Zbin),(Zup,Zbip),(Zuk,Zbik)],[]⟩
abbrev Zchq (x:PkTs Zbqp) (K:PkTs Zbqq->Prop):Prop:=Zbft x.1 (fun r0 r1 r2=>K (r0,r1,r2,()))
theorem Zchr:FnQ Tryz.prog Zuf Zbqp Zbqq Zchq:=(Zcd Zbxy (tab:=Zcfd) ⟨⟨Zbvu,Zbvv,Zbvr,trivial⟩,trivial⟩ rfl).of_eq (by kernel_rfl)
end Go.Proofs.YtlkdgfolbllngaaGreatDoor
