/-
 EACH FUNCTION OVER PLAIN DATA:printed by a program of ours over this translation.
-/
import Derived.Test.YtlkdgfolbllngaaGreatDoorBA
set_option linter.all false
set_option maxRecDepth 100000
set_option maxHeartbeats 4000000
namespace Go.Proofs.YtlkdgfolbllngaaGreatDoor
open Go.Sh
abbrev Zkj:PPlan:=⟨[],[],[],[],[],[]⟩
abbrev Zbmd:List Kd:=[Kd.str]
theorem Zcau:Known Tryz.prog Zuf Tryz.f40 Zkj.plan (Zdy Tryz.f40):=by refine ⟨Tryz.func40,?_,?_,?_,?_,?_⟩<;>kernel_rfl
abbrev Zvt:List Pk:=[Pk.int .u8]
abbrev Zvv:List Pk:=[Pk.bool]
def Zvu (c0:Int) (K:Bool->Prop):Prop:=
 IfB (decide ((c0:Int)≥32))
 (IfB (decide ((c0:Int) <= 126))
 (K true)
 (K ((c0:Int)==9)))
 (K ((c0:Int)==9))
noncomputable def Zcif:Tab:=⟨[],[]⟩
abbrev Zbml (x:PkTs Zvt) (K:PkTs Zvv->Prop):Prop:=Zvu x.1 (fun r0=>K (r0,()))
theorem Zcbv:FnQ Tryz.prog Zuf Zvt Zvv Zbml:=(Zfh Zcau (tab:=Zcif) ⟨trivial,trivial⟩ rfl).of_eq (by kernel_rfl)
noncomputable def Zbjd:Ct:=ctRd Zvt Zvv Zbml
theorem Zbya:Zcp Tryz.prog Zuf Zbjd:=Zem Zcbv
theorem Zcax:Known Tryz.prog Zqr Tryz.f77 Zkj.plan (Zdy Tryz.f77):=by refine ⟨Tryz.func77,?_,?_,?_,?_,?_⟩<;>kernel_rfl
abbrev Zsx:List Pk:=[Pk.int .u8]
abbrev Zsz:List Pk:=[Pk.bool]
def Zsy (c0:Int) (K:Bool->Prop):Prop:=
 IfB (decide (((Zgr .u8 c0 32):Int)≥97))
 (K (decide (((Zgr .u8 c0 32):Int) <= 122)))
 (K false)
noncomputable def Zcii:Tab:=⟨[],[]⟩
abbrev Zbsf (x:PkTs Zsx) (K:PkTs Zsz->Prop):Prop:=Zsy x.1 (fun r0=>K (r0,()))
theorem Zckp:FnQ Tryz.prog Zqr Zsx Zsz Zbsf:=(Zfh Zcax (tab:=Zcii) ⟨trivial,trivial⟩ rfl).of_eq (by kernel_rfl)
noncomputable def Zbbf:Ct:=ctRd Zsx Zsz Zbsf
theorem Zbjl:Zcp Tryz.prog Zqr Zbbf:=Zem Zckp
theorem Zcaz:Known Tryz.prog Zum Tryz.f42 Zkj.plan (Zdy Tryz.f42):=by refine ⟨Tryz.func42,?_,?_,?_,?_,?_⟩<;>kernel_rfl
abbrev Ztb:List Pk:=[Pk.int .u8]
abbrev Ztd:List Pk:=[Pk.bool]
def Ztc (c0:Int) (K:Bool->Prop):Prop:=
 (WfPs Zsx (c0,())->
 Zsy c0 (fun x4=>
 WfPs Zsz (x4,())->
 IfB x4
 (K true)
 (IfB (decide ((c0:Int)≥48))
 (IfB (decide ((c0:Int) <= 57))
 (K true)
 ((WfPs Zou (([95,45,46,58,47]:List UInt8),c0,())->
 Zis ([95,45,46,58,47]:List UInt8) c0 (fun x15=>
 WfPs Zov (x15,())->
 K (decide ((x15:Int)≥0))))))
 ((WfPs Zou (([95,45,46,58,47]:List UInt8),c0,())->
 Zis ([95,45,46,58,47]:List UInt8) c0 (fun x15_1=>
 WfPs Zov (x15_1,())->
 K (decide ((x15_1:Int)≥0))))))))
noncomputable def Zcik:Tab:=⟨[(Zuh,Zbbc),(Zqr,Zbbf)],[]⟩
abbrev Zbsi (x:PkTs Ztb) (K:PkTs Ztd->Prop):Prop:=Ztc x.1 (fun r0=>K (r0,()))
theorem Zcks:FnQ Tryz.prog Zum Ztb Ztd Zbsi:=(Zfh Zcaz (tab:=Zcik) ⟨⟨Zbjg,Zbjl,trivial⟩,trivial⟩ rfl).of_eq (by kernel_rfl)
noncomputable def Zbjn:Ct:=ctRd Ztb Ztd Zbsi
theorem Zbye:Zcp Tryz.prog Zum Zbjn:=Zem Zcks
theorem Zcbf:Known Tryz.prog Zre Tryz.f79 Zkj.plan (Zdy Tryz.f79):=by refine ⟨Tryz.func79,?_,?_,?_,?_,?_⟩<;>kernel_rfl
abbrev Zpp:List Pk:=[Pk.str,Pk.int .i64]
abbrev Zpr:List Pk:=[Pk.int .i64,Pk.bool]
def Zpq (s0:List UInt8) (most1:Int) (K:Int->Bool->Prop):Prop:=
 (WfPs Zoq (s0,())->
 Zkp s0 (fun x10r0 x10r1=>
 WfPs Zor (x10r0,x10r1,())->
 IfB x10r1
 (IfB (decide ((x10r0:Int)≥0))
 (IfB (decide ((x10r0:Int) <= most1))
 ((WfPs Zkq (x10r0,())->
 Zfv x10r0 (fun x27=>
 WfPs Zkr (x27,())->
 K x10r0 (x27==s0))))
 (K x10r0 false))
 (K x10r0 false))
 (K x10r0 false)))
noncomputable def Zciq:Tab:=⟨[(Zfg,Zna),(Zqq,Zua)],[]⟩
abbrev Zbwf (x:PkTs Zpp) (K:PkTs Zpr->Prop):Prop:=Zpq x.1 x.2.1 (fun r0 r1=>K (r0,r1,()))
theorem Zcnq:FnQ Tryz.prog Zre Zpp Zpr Zbwf:=(Zfh Zcbf (tab:=Zciq) ⟨⟨Zqk,Zbba,trivial⟩,trivial⟩ rfl).of_eq (by kernel_rfl)
noncomputable def Zbbg:Ct:=ctRd Zpp Zpr Zbwf
theorem Zbjs:Zcp Tryz.prog Zre Zbbg:=Zem Zcnq
theorem Zcbe:Known Tryz.prog Zux Tryz.f120 Zkj.plan (Zdy Tryz.f120):=by refine ⟨Tryz.func120,?_,?_,?_,?_,?_⟩<;>kernel_rfl
abbrev Zpm:List Pk:=[Pk.str]
abbrev Zpo:List Pk:=[Pk.int .i64]
def Zzl (x7r0:Int) (j1:Bool) (K:Int->Prop):Prop:=
 IfB j1
 (K (-1))
 (K x7r0)
def Zpn (s0:List UInt8) (K:Int->Prop):Prop:=
 (WfPs Zoq (s0,())->
 Zkp s0 (fun x7r0 x7r1=>
 WfPs Zor (x7r0,x7r1,())->
 IfB (!x7r1)
 (Zzl x7r0 true K)
 ((WfPs Zkq (x7r0,())->
 Zfv x7r0 (fun x14=>
 WfPs Zkr (x14,())->
 Zzl x7r0 (!(x14==s0)) K)))))
noncomputable def Zcip:Tab:=⟨[(Zfg,Zna),(Zqq,Zua)],[]⟩
abbrev Zbve (x:PkTs Zpm) (K:PkTs Zpo->Prop):Prop:=Zpn x.1 (fun r0=>K (r0,()))
theorem Zcmt:FnQ Tryz.prog Zux Zpm Zpo Zbve:=(Zfh Zcbe (tab:=Zcip) ⟨⟨Zqk,Zbba,trivial⟩,trivial⟩ rfl).of_eq (by kernel_rfl)
noncomputable def Zbjr:Ct:=ctRd Zpm Zpo Zbve
theorem Zbyj:Zcp Tryz.prog Zux Zbjr:=Zem Zcmt
theorem Zcbb:Known Tryz.prog Zun Tryz.f147 Zkj.plan (Zdy Tryz.f147):=by refine ⟨Tryz.func147,?_,?_,?_,?_,?_⟩<;>kernel_rfl
abbrev Zyf:List Pk:=[Pk.int .u32,Pk.int .i64]
abbrev Zyh:List Pk:=[Pk.int .u32]
def Zyg (a0:Int) (n1:Int) (K:Int->Prop):Prop:=
 (0:Int) <= (IntKind.wrap .i64 (32 - n1))∧
 K (Ztx .u32 a0 (IntKind.wrap .u32 (IntKind.wrap .u64 ((IntKind.wrap .u64 (1*(2^(min ((IntKind.wrap .i64 (32 - n1)):Int).toNat (IntKind.bits .u64))))) - 1))))
noncomputable def Zcim:Tab:=⟨[],[]⟩
abbrev Zbsl (x:PkTs Zyf) (K:PkTs Zyh->Prop):Prop:=Zyg x.1 x.2.1 (fun r0=>K (r0,()))
theorem Zckw:FnQ Tryz.prog Zun Zyf Zyh Zbsl:=(Zfh Zcbb (tab:=Zcim) ⟨trivial,trivial⟩ rfl).of_eq (by kernel_rfl)
noncomputable def Zbjo:Ct:=ctRd Zyf Zyh Zbsl
theorem Zbyf:Zcp Tryz.prog Zun Zbjo:=Zem Zckw
def Zcel:PPlan:=⟨[(1,[0,1,2,3,4,5,6,7,8,9,10,11,12,14,15,13,16,17,18],[18])],[],[],[],[],[]⟩
theorem Zcbh:Known Tryz.prog Zrf Tryz.f121 Zcel.plan (Zdy Tryz.f121):=by refine ⟨Tryz.func121,?_,?_,?_,?_,?_⟩<;>kernel_rfl
abbrev Ztn:List Pk:=[Pk.agg [Kd.int .u32,Kd.int .i64]]
abbrev Ztp:List Pk:=[Pk.bool]
def Zto (p0:UInt32×Int) (K:Bool->Prop):Prop:=
 IfB (decide ((p0.2:Int)≥0))
 (IfB (decide ((p0.2:Int) <= 32))
 ((WfPs Zyf ((p0.1.toNat:Int),p0.2,())->
 Zyg (p0.1.toNat:Int) p0.2 (fun x16=>
 WfPs Zyh (x16,())->
 K ((x16:Int)==(p0.1.toNat:Int)))))
 (K false))
 (K false)
noncomputable def Zcis:Tab:=⟨[(Zun,Zbjo)],[]⟩
abbrev Zbwj (x:PkTs Ztn) (K:PkTs Ztp->Prop):Prop:=Zto x.1 (fun r0=>K (r0,()))
theorem Zcnu:FnQ Tryz.prog Zrf Ztn Ztp Zbwj:=(Zfh Zcbh (tab:=Zcis) ⟨⟨Zbyf,trivial⟩,trivial⟩ rfl).of_eq (by kernel_rfl)
noncomputable def Zbbh:Ct:=ctRd Ztn Ztp Zbwj
theorem Zbju:Zcp Tryz.prog Zrf Zbbh:=Zem Zcnu
def Zbov:PLoop:=⟨[(32,PK.int .i64)],[2,4,30,31],[(4,[PK.int .u32,PK.int .i64])]⟩
def Zceh:PPlan:=⟨[],[(7,Zbov)],[],[],[],[]⟩
theorem Zcaw:Known Tryz.prog Zuk Tryz.f81 Zceh.plan (Zdy Tryz.f81):=by refine ⟨Tryz.func81,?_,?_,?_,?_,?_⟩<;>kernel_rfl
abbrev Zys:List Pk:=[Pk.str]
abbrev Zyu:List Pk:=[Pk.agg [Kd.int .u32,Kd.int .i64],Pk.int .i64]
def Zbgt (K:(UInt32×Int)->Int->Prop):Prop:=
 K ((ofI .u32 0),0) 5
def Zbgs (K:(UInt32×Int)->Int->Prop):Prop:=
 Zbgt K
def Zbgu (c0:Int) (c1:Int) (x37:Int) (x19:List (List UInt8)) (x32:Int) (next7:(Int×Int×Int×Unit)->Prop) (j8:Bool) (K:(UInt32×Int)->Int->Prop):Prop:=
 IfB j8
 (Zbgs K)
 ((0:Int) <= 8∧
 next7 ((IntKind.wrap .i64 (x32+1)),(Zgr .u32 (IntKind.wrap .u32 (c0*256)) (IntKind.wrap .u32 x37)),c1,()))
def Zbgv (x21:Int) (x19:List (List UInt8)) (x32:Int) (c0:Int) (c1:Int) (next7:(Int×Int×Int×Unit)->Prop) (K:(UInt32×Int)->Int->Prop):Prop:=
 IfB (decide ((x32:Int)<(x19.length:Int)))
 ((0:Int) <= x32∧x32<(x19.length:Int)∧
 AtN x19 x32.toNat fun x35=>
 WfT Zbmd x35->
 (WfPs Zpm (x35,())->
 Zpn x35 (fun x37=>
 WfPs Zpo (x37,())->
 IfB (decide ((x37:Int)<0))
 (Zbgu c0 c1 x37 x19 x32 next7 true K)
 (Zbgu c0 c1 x37 x19 x32 next7 (decide ((x37:Int)>255)) K))))
 ((WfPs Ztn ((((ofI .u32 c0),c1):UInt32×Int),())->
 Zto (((ofI .u32 c0),c1):UInt32×Int) (fun x53=>
 WfPs Ztp (x53,())->
 IfB x53
 (K ((ofI .u32 c0),c1) 0)
 (Zbgt K))))
def Zmj (x21:Int) (x19:List (List UInt8)) (j5:Bool) (K:(UInt32×Int)->Int->Prop):Prop:=
 IfB j5
 (Zbgs K)
 (Zdb (Int×Int×Int×Unit) ((0:Int),(0:Int),x21,()) fun y next=>
 WfY Zbov.kinds y->
 Zbgv x21 x19 y.1 y.2.1 y.2.2.1 next K)
def Zyt (s0:List UInt8) (K:(UInt32×Int)->Int->Prop):Prop:=
 (WfPs Zxj (s0,([47]:List UInt8),())->
 Zot s0 ([47]:List UInt8) (fun x14r0 x14r1 x14r2=>
 WfPs Zxk (x14r0,x14r1,x14r2,())->
 (WfPs Zsk (x14r0,([46]:List UInt8),())->
 Zmg x14r0 ([46]:List UInt8) (fun x19=>
 WfPs Zsl (x19,())->
 (WfPs Zpm (x14r1,())->
 Zpn x14r1 (fun x21=>
 WfPs Zpo (x21,())->
 IfB (!x14r2)
 (Zmj x21 x19 true K)
 (Zmj x21 x19 (((x19.length:Int):Int) !=4) K)))))))
noncomputable def Zcih:Tab:=⟨[(Zug,Zbbb),(Zui,Zbbe),(Zux,Zbjr),(Zrf,Zbbh)],[]⟩
abbrev Zbsq (x:PkTs Zys) (K:PkTs Zyu->Prop):Prop:=Zyt x.1 (fun r0 r1=>K (r0,r1,()))
theorem Zclb:FnQ Tryz.prog Zuk Zys Zyu Zbsq:=(Zfh Zcaw (tab:=Zcih) ⟨⟨Zbjf,Zbji,Zbyj,Zbju,trivial⟩,trivial⟩ rfl).of_eq (by kernel_rfl)
noncomputable def Zbjk:Ct:=Zqj Zys Zyu Zbsq
theorem Zbyh:Zcp Tryz.prog Zuk Zbjk:=Zbaz Zclb
theorem Zcbc:Known Tryz.prog Zuo Tryz.f82 Zkj.plan (Zdy Tryz.f82):=by refine ⟨Tryz.func82,?_,?_,?_,?_,?_⟩<;>kernel_rfl
abbrev Zyi:List Pk:=[Pk.str]
abbrev Zyk:List Pk:=[Pk.int .i64,Pk.bool]
def Zyj (s0:List UInt8) (K:Int->Bool->Prop):Prop:=
 (WfPs Zxj (s0,([58]:List UInt8),())->
 Zot s0 ([58]:List UInt8) (fun x13r0 x13r1 x13r2=>
 WfPs Zxk (x13r0,x13r1,x13r2,())->
 (WfPs Zpp (x13r0,(65535:Int),())->
 Zpq x13r0 (65535:Int) (fun x19r0 x19r1=>
 WfPs Zpr (x19r0,x19r1,())->
 (WfPs Zpp (x13r1,(65535:Int),())->
 Zpq x13r1 (65535:Int) (fun x24r0 x24r1=>
 WfPs Zpr (x24r0,x24r1,())->
 (0:Int) <= 16∧
 IfB x19r1
 (K (Zgr .i64 (IntKind.wrap .i64 (x19r0*65536)) x24r0) x24r1)
 (K (Zgr .i64 (IntKind.wrap .i64 (x19r0*65536)) x24r0) false)))))))
noncomputable def Zcin:Tab:=⟨[(Zre,Zbbg),(Zug,Zbbb)],[]⟩
abbrev Zbsm (x:PkTs Zyi) (K:PkTs Zyk->Prop):Prop:=Zyj x.1 (fun r0 r1=>K (r0,r1,()))
theorem Zckx:FnQ Tryz.prog Zuo Zyi Zyk Zbsm:=(Zfh Zcbc (tab:=Zcin) ⟨⟨Zbjs,Zbjf,trivial⟩,trivial⟩ rfl).of_eq (by kernel_rfl)
noncomputable def Zbjp:Ct:=ctRd Zyi Zyk Zbsm
theorem Zbyg:Zcp Tryz.prog Zuo Zbjp:=Zem Zckx
theorem Zcay:Known Tryz.prog Zul Tryz.f122 Zkj.plan (Zdy Tryz.f122):=by refine ⟨Tryz.func122,?_,?_,?_,?_,?_⟩<;>kernel_rfl
abbrev Zyc:List Pk:=[Pk.str]
abbrev Zye:List Pk:=[Pk.int .i64]
def Zta (x7r0:Int) (j1:Bool) (K:Int->Prop):Prop:=
 IfB j1
 (K (-1))
 (K x7r0)
def Zyd (s0:List UInt8) (K:Int->Prop):Prop:=
 (WfPs Zoq (s0,())->
 Zkp s0 (fun x7r0 x7r1=>
 WfPs Zor (x7r0,x7r1,())->
 IfB (!x7r1)
 (Zta x7r0 true K)
 (IfB (decide ((x7r0:Int)>255))
 (Zta x7r0 true K)
 ((WfPs Zkq (x7r0,())->
 Zfv x7r0 (fun x18=>
 WfPs Zkr (x18,())->
 Zta x7r0 (!(x18==s0)) K))))))
noncomputable def Zcij:Tab:=⟨[(Zfg,Zna),(Zqq,Zua)],[]⟩
abbrev Zbsg (x:PkTs Zyc) (K:PkTs Zye->Prop):Prop:=Zyd x.1 (fun r0=>K (r0,()))
theorem Zckq:FnQ Tryz.prog Zul Zyc Zye Zbsg:=(Zfh Zcay (tab:=Zcij) ⟨⟨Zqk,Zbba,trivial⟩,trivial⟩ rfl).of_eq (by kernel_rfl)
noncomputable def Zbjm:Ct:=ctRd Zyc Zye Zbsg
theorem Zbyd:Zcp Tryz.prog Zul Zbjm:=Zem Zckq
def Zbow:PLoop:=⟨[(5,PK.int .u32),(16,PK.int .i64)],[14,15],[]⟩
def Zcek:PPlan:=⟨[],[(6,Zbow)],[],[],[],[]⟩
theorem Zcbg:Known Tryz.prog Zvb Tryz.f83 Zcek.plan (Zdy Tryz.f83):=by refine ⟨Tryz.func83,?_,?_,?_,?_,?_⟩<;>kernel_rfl
abbrev Zzm:List Pk:=[Pk.str]
abbrev Zzo:List Pk:=[Pk.int .u32,Pk.int .i64]
def Zbhp (x10:List (List UInt8)) (a5:Int) (x16:Int) (next6:(Int×Int×Unit)->Prop) (K:Int->Int->Prop):Prop:=
 IfB (decide ((x16:Int)<(x10.length:Int)))
 ((0:Int) <= x16∧x16<(x10.length:Int)∧
 AtN x10 x16.toNat fun x19=>
 WfT Zbmd x19->
 (WfPs Zyc (x19,())->
 Zyd x19 (fun x21=>
 WfPs Zye (x21,())->
 IfB (decide ((x21:Int)<0))
 (K 0 2)
 ((0:Int) <= 8∧
 next6 ((Zgr .u32 (IntKind.wrap .u32 (a5*256)) (IntKind.wrap .u32 x21)),(IntKind.wrap .i64 (x16+1)),())))))
 (K a5 0)
def Zzn (s0:List UInt8) (K:Int->Int->Prop):Prop:=
 (WfPs Zsk (s0,([46]:List UInt8),())->
 Zmg s0 ([46]:List UInt8) (fun x10=>
 WfPs Zsl (x10,())->
 IfB (((x10.length:Int):Int) !=4)
 (K 0 2)
 (Zdb (Int×Int×Unit) ((0:Int),(0:Int),()) fun y next=>
 WfY Zbow.kinds y->
 Zbhp x10 y.1 y.2.1 next K)))
noncomputable def Zcir:Tab:=⟨[(Zui,Zbbe),(Zul,Zbjm)],[]⟩
abbrev Zbwi (x:PkTs Zzm) (K:PkTs Zzo->Prop):Prop:=Zzn x.1 (fun r0 r1=>K (r0,r1,()))
theorem Zcnt:FnQ Tryz.prog Zvb Zzm Zzo Zbwi:=(Zfh Zcbg (tab:=Zcir) ⟨⟨Zbji,Zbyd,trivial⟩,trivial⟩ rfl).of_eq (by kernel_rfl)
noncomputable def Zbjt:Ct:=ctRd Zzm Zzo Zbwi
theorem Zbyk:Zcp Tryz.prog Zvb Zbjt:=Zem Zcnt
def Zcej:PPlan:=⟨[(11,[0,1,2,3,4,5,6,7],[47])],[],[],[(11,[4])],[],[]⟩
theorem Zcbd:Known Tryz.prog Zuq Tryz.f43 Zcej.plan (Zdy Tryz.f43):=by refine ⟨Tryz.func43,?_,?_,?_,?_,?_⟩<;>kernel_rfl
abbrev Zzd:List Pk:=[Pk.str]
abbrev Zzf:List Pk:=[Pk.agg [Kd.int .i64,Kd.str,Kd.int .i64,Kd.int .u32,Kd.int .i64,Kd.int .i64],Pk.bool]
def Zhd (s0:List UInt8) (j6:Int) (j8:Int) (j9:Int) (j10:Int) (j12:Bool) (K:(Int×List UInt8×Int×UInt32×Int×Int)->Bool->Prop):Prop:=
 K (j6,s0,j8,(ofI .u32 j9),j10,0) j12
def Zze (s0:List UInt8) (K:(Int×List UInt8×Int×UInt32×Int×Int)->Bool->Prop):Prop:=
 (WfPs Zxn (s0,([48,49,50,51,52,53,54,55,56,57]:List UInt8),())->
 Zsm s0 ([48,49,50,51,52,53,54,55,56,57]:List UInt8) (fun x14=>
 WfPs Zxo (x14,())->
 IfB (x14==([]:List UInt8))
 ((WfPs Zpp (s0,(4294967295:Int),())->
 Zpq s0 (4294967295:Int) (fun x35r0 x35r1=>
 WfPs Zpr (x35r0,x35r1,())->
 Zhd s0 2 x35r0 0 0 x35r1 K)))
 ((WfPs Zsi (s0,([47]:List UInt8),())->
 Zos s0 ([47]:List UInt8) (fun x41=>
 WfPs Zsj (x41,())->
 IfB x41
 ((WfPs Zys (s0,())->
 Zyt s0 (fun x44r0 x44r1=>
 WfPs Zyu (x44r0,x44r1,())->
 Zhd s0 4 0 (x44r0.1.toNat:Int) x44r0.2 ((x44r1:Int)==0) K)))
 ((WfPs Zsi (s0,([58]:List UInt8),())->
 Zos s0 ([58]:List UInt8) (fun x54=>
 WfPs Zsj (x54,())->
 IfB x54
 ((WfPs Zyi (s0,())->
 Zyj s0 (fun x58r0 x58r1=>
 WfPs Zyk (x58r0,x58r1,())->
 Zhd s0 5 x58r0 0 0 x58r1 K)))
 ((WfPs Zxn (s0,([48,49,50,51,52,53,54,55,56,57,46]:List UInt8),())->
 Zsm s0 ([48,49,50,51,52,53,54,55,56,57,46]:List UInt8) (fun x64=>
 WfPs Zxo (x64,())->
 IfB (x64==([]:List UInt8))
 ((WfPs Zzm (s0,())->
 Zzn s0 (fun x68r0 x68r1=>
 WfPs Zzo (x68r0,x68r1,())->
 Zhd s0 3 (IntKind.wrap .i64 x68r0) 0 0 ((x68r1:Int)==0) K)))
 ((0:Int) <= 0∧AtN s0 0 fun x17=>
 (WfPs Zsx ((x17.toNat:Int),())->
 Zsy (x17.toNat:Int) (fun x18=>
 WfPs Zsz (x18,())->
 IfB x18
 (IfB (decide (((s0.length:Int):Int) <= 32))
 ((WfPs Zsi (s0,([46]:List UInt8),())->
 Zos s0 ([46]:List UInt8) (fun x26=>
 WfPs Zsj (x26,())->
 Zhd s0 1 0 0 0 (!x26) K)))
 (Zhd s0 1 0 0 0 false K))
 (Zhd s0 1 0 0 0 false K)))))))))))))))
noncomputable def Zcio:Tab:=⟨[(Zqr,Zbbf),(Zbbr,Zbjj),(Zre,Zbbg),(Zbbq,Zbje),(Zuk,Zbjk),(Zuo,Zbjp),(Zvb,Zbjt)],[]⟩
abbrev Zbuc (x:PkTs Zzd) (K:PkTs Zzf->Prop):Prop:=Zze x.1 (fun r0 r1=>K (r0,r1,()))
theorem Zcma:FnQ Tryz.prog Zuq Zzd Zzf Zbuc:=(Zfh Zcbd (tab:=Zcio) ⟨⟨Zbjl,Zbyc,Zbjs,Zbyb,Zbyh,Zbyg,Zbyk,trivial⟩,trivial⟩ rfl).of_eq (by kernel_rfl)
noncomputable def Zbjq:Ct:=Zqj Zzd Zzf Zbuc
theorem Zbyi:Zcp Tryz.prog Zuq Zbjq:=Zbaz Zcma
def Zbor:PLoop:=⟨[(7,PK.int .i64)],[0,5,6,8,9],[]⟩
def Zbot:PLoop:=⟨[(9,PK.int .i64)],[0,5,6,7,8],[]⟩
def Zbos:PLoop:=⟨[(5,PK.row Zbht [Kd.int .i64,Kd.str,Kd.int .i64,Kd.int .u32,Kd.int .i64,Kd.int .i64]),(7,PK.int .i64),(8,PK.int .i64),(9,PK.int .i64)],[0,6],[(6,[PK.int .i64,PK.str,PK.int .i64,PK.int .u32,PK.int .i64,PK.int .i64])]⟩
def Zceg:PPlan:=⟨[],[(16,Zbor),(23,Zbot),(2000000,Zbos)],[],[],[],[]⟩
theorem Zcav:Known Tryz.prog Zuj Tryz.f14 Zceg.plan (Zdy Tryz.f14):=by refine ⟨Tryz.func14,?_,?_,?_,?_,?_⟩<;>kernel_rfl
abbrev Zbsd:List Pk:=[Pk.str]
abbrev Zbse:List Pk:=[Pk.lst [Kd.int .i64,Kd.str,Kd.int .i64,Kd.int .u32,Kd.int .i64,Kd.int .i64],Pk.int .i64,Pk.int .i64]
def Zyb (line8:Int) (next2000000:(List (Int×List UInt8×Int×UInt32×Int×Int)×Int×Int×Int×Int×List UInt8×Int×Int×Int×Int×Unit)->Prop) (K:List (Int×List UInt8×Int×UInt32×Int×Int)->Int->Int->Prop):Prop:=
 K ([]:List (Int×List UInt8×Int×UInt32×Int×Int)) line8 240
def Zbgo (text0:List UInt8) (l5:List (Int×List UInt8×Int×UInt32×Int×Int)) (c0:Int) (c1:List UInt8) (c2:Int) (c3:Int) (c4:Int) (c5:Int) (at7_1:Int) (line8:Int) (end9:Int) (next2000000:(List (Int×List UInt8×Int×UInt32×Int×Int)×Int×Int×Int×Int×List UInt8×Int×Int×Int×Int×Unit)->Prop) (next16:(Int×Unit)->Prop) (j11:Bool) (K:List (Int×List UInt8×Int×UInt32×Int×Int)->Int->Int->Prop):Prop:=
 IfB j11
 ((0:Int) <= at7_1∧AtN text0 at7_1.toNat fun x54=>
 (WfPs Zvt ((x54.toNat:Int),())->
 Zvu (x54.toNat:Int) (fun x55=>
 WfPs Zvv (x55,())->
 IfB (!x55)
 (Zyb line8 next2000000 K)
 (next16 ((IntKind.wrap .i64 (at7_1+1)),())))))
 (next2000000 (l5,at7_1,line8,end9,c0,c1,c2,c3,c4,c5,()))
def Zbsa (text0:List UInt8) (l5:List (Int×List UInt8×Int×UInt32×Int×Int)) (c0:Int) (c1:List UInt8) (c2:Int) (c3:Int) (c4:Int) (c5:Int) (line8:Int) (end9:Int) (next2000000:(List (Int×List UInt8×Int×UInt32×Int×Int)×Int×Int×Int×Int×List UInt8×Int×Int×Int×Int×Unit)->Prop) (at7_1:Int) (next16:(Int×Unit)->Prop) (K:List (Int×List UInt8×Int×UInt32×Int×Int)->Int->Int->Prop):Prop:=
 IfB (decide ((at7_1:Int)<(text0.length:Int)))
 ((0:Int) <= at7_1∧AtN text0 at7_1.toNat fun x49=>
 Zbgo text0 l5 c0 c1 c2 c3 c4 c5 at7_1 line8 end9 next2000000 next16 (((x49.toNat:Int):Int) !=10) K)
 (Zbgo text0 l5 c0 c1 c2 c3 c4 c5 at7_1 line8 end9 next2000000 next16 false K)
def Zsv (text0:List UInt8) (l5:List (Int×List UInt8×Int×UInt32×Int×Int)) (j2:Int) (j3:List UInt8) (j4:Int) (j5:Int) (j6:Int) (j7:Int) (line8:Int) (j9:Int) (j10:Bool) (next2000000:(List (Int×List UInt8×Int×UInt32×Int×Int)×Int×Int×Int×Int×List UInt8×Int×Int×Int×Int×Unit)->Prop) (K:List (Int×List UInt8×Int×UInt32×Int×Int)->Int->Int->Prop):Prop:=
 IfB (!j10)
 (Zyb line8 next2000000 K)
 (IfB (((l5.length:Int):Int)==4096)
 (K ([]:List (Int×List UInt8×Int×UInt32×Int×Int)) line8 3)
 (l5.length+([(j2,j3,j4,(ofI .u32 j5),j6,line8)]:List (Int×List UInt8×Int×UInt32×Int×Int)).length <= 2513169434820∧
 next2000000 ((l5++([(j2,j3,j4,(ofI .u32 j5),j6,line8)]:List (Int×List UInt8×Int×UInt32×Int×Int))),j9,line8,j9,j2,j3,j4,j5,j6,line8,())))
def Zmi (text0:List UInt8) (l5:List (Int×List UInt8×Int×UInt32×Int×Int)) (line8:Int) (next2000000:(List (Int×List UInt8×Int×UInt32×Int×Int)×Int×Int×Int×Int×List UInt8×Int×Int×Int×Int×Unit)->Prop) (j2:Int) (j3:List UInt8) (j4:Int) (j5:Int) (j6:Int) (j7:Int) (j9:Int) (j10:Bool) (K:List (Int×List UInt8×Int×UInt32×Int×Int)->Int->Int->Prop):Prop:=
 Zsv text0 l5 j2 j3 j4 j5 j6 j7 line8 j9 j10 next2000000 K
def Zsw (text0:List UInt8) (l5:List (Int×List UInt8×Int×UInt32×Int×Int)) (c0:Int) (c1:List UInt8) (c2:Int) (c3:Int) (c4:Int) (c5:Int) (at7:Int) (line8:Int) (end9_1:Int) (next2000000:(List (Int×List UInt8×Int×UInt32×Int×Int)×Int×Int×Int×Int×List UInt8×Int×Int×Int×Int×Unit)->Prop) (next23:(Int×Unit)->Prop) (j11_1:Bool) (K:List (Int×List UInt8×Int×UInt32×Int×Int)->Int->Int->Prop):Prop:=
 IfB j11_1
 (next23 ((IntKind.wrap .i64 (end9_1+1)),()))
 ((0:Int) <= end9_1∧end9_1 <= (text0.length:Int)∧
 (0:Int) <= at7∧at7 <= (end9_1.toNat:Int)∧
 (WfPs Zzd (((text0.take end9_1.toNat).drop at7.toNat),())->
 Zze ((text0.take end9_1.toNat).drop at7.toNat) (fun x92r0 x92r1=>
 WfPs Zzf (x92r0,x92r1,())->
 Zmi text0 l5 line8 next2000000 x92r0.1 x92r0.2.1 x92r0.2.2.1 (x92r0.2.2.2.1.toNat:Int) x92r0.2.2.2.2.1 x92r0.2.2.2.2.2 end9_1 x92r1 K)))
def Zbsc (text0:List UInt8) (l5:List (Int×List UInt8×Int×UInt32×Int×Int)) (c0:Int) (c1:List UInt8) (c2:Int) (c3:Int) (c4:Int) (c5:Int) (at7:Int) (line8:Int) (next2000000:(List (Int×List UInt8×Int×UInt32×Int×Int)×Int×Int×Int×Int×List UInt8×Int×Int×Int×Int×Unit)->Prop) (end9_1:Int) (next23:(Int×Unit)->Prop) (K:List (Int×List UInt8×Int×UInt32×Int×Int)->Int->Int->Prop):Prop:=
 IfB (decide ((end9_1:Int)<(text0.length:Int)))
 ((0:Int) <= end9_1∧AtN text0 end9_1.toNat fun x82=>
 (WfPs Ztb ((x82.toNat:Int),())->
 Ztc (x82.toNat:Int) (fun x83=>
 WfPs Ztd (x83,())->
 Zsw text0 l5 c0 c1 c2 c3 c4 c5 at7 line8 end9_1 next2000000 next23 x83 K)))
 (Zsw text0 l5 c0 c1 c2 c3 c4 c5 at7 line8 end9_1 next2000000 next23 false K)
def Zbgn (text0:List UInt8) (l5:List (Int×List UInt8×Int×UInt32×Int×Int)) (c0:Int) (c1:List UInt8) (c2:Int) (c3:Int) (c4:Int) (c5:Int) (at7:Int) (line8:Int) (end9:Int) (x22:UInt8) (next2000000:(List (Int×List UInt8×Int×UInt32×Int×Int)×Int×Int×Int×Int×List UInt8×Int×Int×Int×Int×Unit)->Prop) (j12:Bool) (K:List (Int×List UInt8×Int×UInt32×Int×Int)->Int->Int->Prop):Prop:=
 IfB j12
 (next2000000 (l5,(IntKind.wrap .i64 (at7+1)),line8,end9,c0,c1,c2,c3,c4,c5,()))
 (IfB (((x22.toNat:Int):Int)==35)
 (Zdb (Int×Unit) (at7,()) fun y next=>
 WfY Zbor.kinds y->
 Zbsa text0 l5 c0 c1 c2 c3 c4 c5 line8 end9 next2000000 y.1 next K)
 ((WfPs Zou (([123,125,40,41,59]:List UInt8),(x22.toNat:Int),())->
 Zis ([123,125,40,41,59]:List UInt8) (x22.toNat:Int) (fun x61=>
 WfPs Zov (x61,())->
 IfB (decide ((x61:Int)≥0))
 ((0:Int) <= (IntKind.wrap .i64 (at7+1))∧(IntKind.wrap .i64 (at7+1)) <= (text0.length:Int)∧
 (0:Int) <= at7∧at7 <= ((IntKind.wrap .i64 (at7+1)).toNat:Int)∧
 Zmi text0 l5 line8 next2000000 6 ((text0.take ((IntKind.wrap .i64 (at7+1)).toNat)).drop at7.toNat) 0 0 0 0 (IntKind.wrap .i64 (at7+1)) true K)
 ((WfPs Ztb ((x22.toNat:Int),())->
 Ztc (x22.toNat:Int) (fun x73=>
 WfPs Ztd (x73,())->
 IfB x73
 (Zdb (Int×Unit) (at7,()) fun y next=>
 WfY Zbot.kinds y->
 Zbsc text0 l5 c0 c1 c2 c3 c4 c5 at7 line8 next2000000 y.1 next K)
 (Zmi text0 l5 line8 next2000000 c0 c1 c2 c3 c4 c5 end9 false K))))))))
def Zbsb (text0:List UInt8) (l5:List (Int×List UInt8×Int×UInt32×Int×Int)) (at7:Int) (line8:Int) (end9:Int) (c0:Int) (c1:List UInt8) (c2:Int) (c3:Int) (c4:Int) (c5:Int) (next2000000:(List (Int×List UInt8×Int×UInt32×Int×Int)×Int×Int×Int×Int×List UInt8×Int×Int×Int×Int×Unit)->Prop) (K:List (Int×List UInt8×Int×UInt32×Int×Int)->Int->Int->Prop):Prop:=
 IfB ((at7:Int)==(text0.length:Int))
 (K l5 0 0)
 ((0:Int) <= at7∧AtN text0 at7.toNat fun x22=>
 IfB (((x22.toNat:Int):Int)==10)
 (next2000000 (l5,(IntKind.wrap .i64 (at7+1)),(IntKind.wrap .i64 (line8+1)),end9,c0,c1,c2,c3,c4,c5,()))
 (IfB (((x22.toNat:Int):Int)==32)
 (Zbgn text0 l5 c0 c1 c2 c3 c4 c5 at7 line8 end9 x22 next2000000 true K)
 (Zbgn text0 l5 c0 c1 c2 c3 c4 c5 at7 line8 end9 x22 next2000000 (((x22.toNat:Int):Int)==9) K)))
def Zbgp (text0:List UInt8) (K:List (Int×List UInt8×Int×UInt32×Int×Int)->Int->Int->Prop):Prop:=
 IfB (decide (((text0.length:Int):Int)>65536))
 (K ([]:List (Int×List UInt8×Int×UInt32×Int×Int)) 0 3)
 (Zdb (List (Int×List UInt8×Int×UInt32×Int×Int)×Int×Int×Int×Int×List UInt8×Int×Int×Int×Int×Unit) (([]:List (Int×List UInt8×Int×UInt32×Int×Int)),(0:Int),(1:Int),(0:Int),(0:Int),([]:List UInt8),(0:Int),(0:Int),(0:Int),(0:Int),()) fun y next=>
 WfY Zbos.kinds y->
 Zbsb text0 y.1 y.2.1 y.2.2.1 y.2.2.2.1 y.2.2.2.2.1 y.2.2.2.2.2.1 y.2.2.2.2.2.2.1 y.2.2.2.2.2.2.2.1 y.2.2.2.2.2.2.2.2.1 y.2.2.2.2.2.2.2.2.2.1 next K)
noncomputable def Zcig:Tab:=⟨[(Zuf,Zbjd),(Zuh,Zbbc),(Zum,Zbjn),(Zuq,Zbjq)],[]⟩
abbrev Zckn (x:PkTs Zbsd) (K:PkTs Zbse->Prop):Prop:=Zbgp x.1 (fun r0 r1 r2=>K (r0,r1,r2,()))
theorem Zcko:FnQ Tryz.prog Zuj Zbsd Zbse Zckn:=(Zfh Zcav (tab:=Zcig) ⟨⟨Zbya,Zbjg,Zbye,Zbyi,trivial⟩,trivial⟩ rfl).of_eq (by kernel_rfl)
def Zboq:PLoop:=⟨[(3,PK.row Zm [Kd.str]),(4,PK.int .i64)],[0],[]⟩
def Zcef:PPlan:=⟨[],[(3,Zboq)],[],[],[],[]⟩
theorem Zcat:Known Tryz.prog Zqp Tryz.f23 Zcef.plan (Zdy Tryz.f23):=by refine ⟨Tryz.func23,?_,?_,?_,?_,?_⟩<;>kernel_rfl
abbrev Zblp:List Pk:=[Pk.int .u32]
abbrev Zblq:List Pk:=[Pk.str]
def Zbcz (a0:Int) (l3:List (List UInt8)) (k4:Int) (next3:(List (List UInt8)×Int×Unit)->Prop) (K:List UInt8->Prop):Prop:=
 IfB (decide ((k4:Int)≥0))
 ((0:Int) <= (IntKind.wrap .i64 (8*k4))∧
 (WfPs Zkq ((IntKind.wrap .i64 (Zjc .u32 (Int.fdiv a0 (2^(min ((IntKind.wrap .i64 (8*k4)):Int).toNat (IntKind.bits .u32)))) 255)),())->
 Zfv (IntKind.wrap .i64 (Zjc .u32 (Int.fdiv a0 (2^(min ((IntKind.wrap .i64 (8*k4)):Int).toNat (IntKind.bits .u32)))) 255)) (fun x16=>
 WfPs Zkr (x16,())->
 l3.length+([x16]:List (List UInt8)).length <= 8796093022112∧
 next3 ((l3++([x16]:List (List UInt8))),(IntKind.wrap .i64 (k4 - 1)),()))))
 ((WfPs Zxl (l3,([46]:List UInt8),())->
 Zow l3 ([46]:List UInt8) (fun x20=>
 WfPs Zxm (x20,())->
 K x20)))
def Zvm (a0:Int) (K:List UInt8->Prop):Prop:=
 Zdb (List (List UInt8)×Int×Unit) (([]:List (List UInt8)),(3:Int),()) fun y next=>
 WfY Zboq.kinds y->
 Zbcz a0 y.1 y.2.1 next K
noncomputable def Zcie:Tab:=⟨[(Zfg,Zna),(Zjw,Zbbd)],[]⟩
abbrev Zcad (x:PkTs Zblp) (K:PkTs Zblq->Prop):Prop:=Zvm x.1 (fun r0=>K (r0,()))
theorem Zcae:FnQ Tryz.prog Zqp Zblp Zblq Zcad:=(Zfh Zcat (tab:=Zcie) ⟨⟨Zqk,Zbjh,trivial⟩,trivial⟩ rfl).of_eq (by kernel_rfl)
def Zbou:PLoop:=⟨[(3,PK.row Zm [Kd.str]),(8,PK.int .i64)],[1],[]⟩
def Zcei:PPlan:=⟨[(9,[0,3,4,1,2,5,6,7],[28])],[(5,Zbou)],[],[],[],[]⟩
theorem Zcba:Known Tryz.prog Zqs Tryz.f159 Zcei.plan (Zdy Tryz.f159):=by refine ⟨Tryz.func159,?_,?_,?_,?_,?_⟩<;>kernel_rfl
abbrev Zbsj:List Pk:=[Pk.agg [Kd.int .u32,Kd.int .i64]]
abbrev Zbsk:List Pk:=[Pk.str]
def Zbgq (p0:UInt32×Int) (l3:List (List UInt8)) (x8:Int) (next5:(List (List UInt8)×Int×Unit)->Prop) (K:List UInt8->Prop):Prop:=
 IfB (decide ((x8:Int)<4))
 ((0:Int) <= (IntKind.wrap .i64 (24 - (IntKind.wrap .i64 (8*x8))))∧
 (WfPs Zkq ((IntKind.wrap .i64 (Zjc .u32 (Int.fdiv (p0.1.toNat:Int) (2^(min ((IntKind.wrap .i64 (24 - (IntKind.wrap .i64 (8*x8)))):Int).toNat (IntKind.bits .u32)))) 255)),())->
 Zfv (IntKind.wrap .i64 (Zjc .u32 (Int.fdiv (p0.1.toNat:Int) (2^(min ((IntKind.wrap .i64 (24 - (IntKind.wrap .i64 (8*x8)))):Int).toNat (IntKind.bits .u32)))) 255)) (fun x20=>
 WfPs Zkr (x20,())->
 l3.length+([x20]:List (List UInt8)).length <= 8796093022112∧
 next5 ((l3++([x20]:List (List UInt8))),(IntKind.wrap .i64 (x8+1)),()))))
 ((WfPs Zxl (l3,([46]:List UInt8),())->
 Zow l3 ([46]:List UInt8) (fun x25=>
 WfPs Zxm (x25,())->
 x25.length+([47]:List UInt8).length <= Zo∧
 (WfPs Zkq (p0.2,())->
 Zfv p0.2 (fun x29=>
 WfPs Zkr (x29,())->
 (x25++([47]:List UInt8)).length+x29.length <= Zo∧
 K ((x25++([47]:List UInt8))++x29))))))
def Zbgr (p0:UInt32×Int) (K:List UInt8->Prop):Prop:=
 (WfPs Ztn ((((ofI .u32 (p0.1.toNat:Int)),p0.2):UInt32×Int),())->
 Zto (((ofI .u32 (p0.1.toNat:Int)),p0.2):UInt32×Int) (fun x6=>
 WfPs Ztp (x6,())->
 IfB (!x6)
 (K ([]:List UInt8))
 (Zdb (List (List UInt8)×Int×Unit) (([]:List (List UInt8)),(0:Int),()) fun y next=>
 WfY Zbou.kinds y->
 Zbgq p0 y.1 y.2.1 next K)))
noncomputable def Zcil:Tab:=⟨[(Zfg,Zna),(Zjw,Zbbd),(Zrf,Zbbh)],[]⟩
abbrev Zckt (x:PkTs Zbsj) (K:PkTs Zbsk->Prop):Prop:=Zbgr x.1 (fun r0=>K (r0,()))
theorem Zckv:FnQ Tryz.prog Zqs Zbsj Zbsk Zckt:=(Zfh Zcba (tab:=Zcil) ⟨⟨Zqk,Zbjh,Zbju,trivial⟩,trivial⟩ rfl).of_eq (by kernel_rfl)
end Go.Proofs.YtlkdgfolbllngaaGreatDoor
