/-
  EACH FUNCTION OVER PLAIN DATA:printed by a program of ours over this translation.
-/
import Derived.Test.YthdffaojeghaeaaGreatDoorBA
set_option linter.all false
set_option maxRecDepth 100000
set_option maxHeartbeats 4000000
namespace Go.Proofs.YthdffaojeghaeaaGreatDoor
open Go.Sh
abbrev Zhi:PPlan:=⟨[],[],[],[],[],[]⟩
abbrev Zmr:List Kd:=[Kd.int .u32]
abbrev Zcw:List Kd:=[Kd.bool,Kd.lst [Kd.int .u32]]
abbrev Zbz:List Kd:=[Kd.int .u8]
abbrev Zbxc:List Kd:=[Kd.lst [Kd.int .u32]]
def Zbxx:PLoop:=⟨[(8,PK.int .i64)],[0,1,7],[]⟩
def Zcrp:PPlan:=⟨[],[(2,Zbxx)],[],[],[],[]⟩
theorem Zcbm:Known Tryz.prog Zzx Tryz.f110 Zcrp.plan (Zg Tryz.f110):=by refine ⟨Tryz.func110,?_,?_,?_,?_,?_⟩<;>kernel_rfl
abbrev Ztc:List Pk:=[Pk.lst [Kd.int .u32],Pk.int .u32]
abbrev Zyl:List Pk:=[Pk.int .i64]
def Zbfr (s0:List UInt32) (v1:Int) (x8:Int) (next2:(Int×Unit)->Prop) (K:Int->Prop):Prop:=
 IfB (decide ((x8:Int)<(s0.length:Int)))
 ((0:Int) <= x8∧AtN s0 x8.toNat fun x14=>
 WfT Zmr x14->
 IfB ((v1:Int)==(x14.toNat:Int))
 (K x8)
 (next2 ((IntKind.wrap .i64 (x8+1)),())))
 (K (-1))
def Zxp (s0:List UInt32) (v1:Int) (K:Int->Prop):Prop:=
 Zk (Int×Unit) ((0:Int),()) fun y next=>
 WfY Zbxx.kinds y->
 Zbfr s0 v1 y.1 next K
noncomputable def Zcez:Tab:=⟨[],[]⟩
abbrev Zbjq (x:PkTs Ztc) (K:PkTs Zyl->Prop):Prop:=Zxp x.1 x.2.1 (fun r0=>K (r0,()))
theorem Zchh:FnQ Tryz.prog Zzx Ztc Zyl Zbjq:=(Zt Zcbm (tab:=Zcez) ⟨trivial,trivial⟩ rfl).of_eq (by kernel_rfl)
noncomputable def Zbvl:Ct:=ctRd Ztc Zyl Zbjq
theorem Zbyv:Zw Tryz.prog Zzx Zbvl:=Zde Zchh
theorem Zcdk:Known Tryz.prog Zwn Tryz.f99 Zhi.plan (Zg Tryz.f99):=by refine ⟨Tryz.func99,?_,?_,?_,?_,?_⟩<;>kernel_rfl
abbrev Zxo:List Pk:=[Pk.lst [Kd.int .u32],Pk.int .u32]
abbrev Zwc:List Pk:=[Pk.bool]
def Zsu (s0:List UInt32) (v1:Int) (K:Bool->Prop):Prop:=
 (WfPs Ztc (s0,v1,())->
 Zxp s0 v1 (fun x7=>
 WfPs Zyl (x7,())->
 K (decide ((x7:Int)≥0))))
noncomputable def Zcgi:Tab:=⟨[(Zzx,Zbvl)],[]⟩
abbrev Zbxf (x:PkTs Zxo) (K:PkTs Zwc->Prop):Prop:=Zsu x.1 x.2.1 (fun r0=>K (r0,()))
theorem Zcdl:FnQ Tryz.prog Zwn Zxo Zwc Zbxf:=(Zt Zcdk (tab:=Zcgi) ⟨⟨Zbyv,trivial⟩,trivial⟩ rfl).of_eq (by kernel_rfl)
noncomputable def Zblj:Ct:=ctRd Zxo Zwc Zbxf
theorem Zcuq:Zw Tryz.prog Zwn Zblj:=Zde Zcdl
theorem Zckm:Known Tryz.prog Zxt Tryz.f82 Zhi.plan (Zg Tryz.f82):=by refine ⟨Tryz.func82,?_,?_,?_,?_,?_⟩<;>kernel_rfl
abbrev Zxm:List Pk:=[Pk.agg [Kd.bool,Kd.lst [Kd.int .u32]]]
abbrev Zyh:List Pk:=[Pk.bool]
def Zzp (s0:Bool×List UInt32) (K:Bool->Prop):Prop:=
 IfB (decide (((s0.2.length:Int):Int)>0))
 (IfB (decide (((s0.2.length:Int):Int) <= 255))
 ((WfPs Zxo (s0.2,(0:Int),())->
 Zsu s0.2 (0:Int) (fun x16=>
 WfPs Zwc (x16,())->
 K (!x16))))
 (K false))
 (K false)
noncomputable def Zctl:Tab:=⟨[(Zwn,Zblj)],[]⟩
abbrev Zbwb (x:PkTs Zxm) (K:PkTs Zyh->Prop):Prop:=Zzp x.1 (fun r0=>K (r0,()))
theorem Zcls:FnQ Tryz.prog Zxt Zxm Zyh Zbwb:=(Zt Zckm (tab:=Zctl) ⟨⟨Zcuq,trivial⟩,trivial⟩ rfl).of_eq (by kernel_rfl)
noncomputable def Zbox:Ct:=ctRd Zxm Zyh Zbwb
theorem Zcaa:Zw Tryz.prog Zxt Zbox:=Zde Zcls
def Zbip:PLoop:=⟨[(3,PK.int .i64),(8,PK.int .i64)],[6,7],[]⟩
def Zbym:PPlan:=⟨[],[(3,Zbip)],[],[],[],[]⟩
theorem Zcsf:Known Tryz.prog Zyp Tryz.f83 Zbym.plan (Zg Tryz.f83):=by refine ⟨Tryz.func83,?_,?_,?_,?_,?_⟩<;>kernel_rfl
abbrev Zza:List Pk:=[Pk.lst [Kd.bool,Kd.lst [Kd.int .u32]]]
abbrev Zwm:List Pk:=[Pk.int .i64]
def Zbep (p0:List (Bool×List UInt32)) (n3:Int) (x8:Int) (next3:(Int×Int×Unit)->Prop) (K:Int->Prop):Prop:=
 IfB (decide ((x8:Int)<(p0.length:Int)))
 ((0:Int) <= x8∧AtN p0 x8.toNat fun x10=>
 WfT Zcw x10->
 next3 ((IntKind.wrap .i64 (n3+(x10.2.length:Int))),(IntKind.wrap .i64 (x8+1)),()))
 (K n3)
def Zvr (p0:List (Bool×List UInt32)) (K:Int->Prop):Prop:=
 Zk (Int×Int×Unit) ((0:Int),(0:Int),()) fun y next=>
 WfY Zbip.kinds y->
 Zbep p0 y.1 y.2.1 next K
noncomputable def Zcmg:Tab:=⟨[],[]⟩
abbrev Zbwz (x:PkTs Zza) (K:PkTs Zwm->Prop):Prop:=Zvr x.1 (fun r0=>K (r0,()))
theorem Zcpz:FnQ Tryz.prog Zyp Zza Zwm Zbwz:=(Zt Zcsf (tab:=Zcmg) ⟨trivial,trivial⟩ rfl).of_eq (by kernel_rfl)
noncomputable def Zbuq:Ct:=ctRd Zza Zwm Zbwz
theorem Zcoi:Zw Tryz.prog Zyp Zbuq:=Zde Zcpz
def Zbjf:PLoop:=⟨[(7,PK.int .i64)],[0,5,6],[]⟩
def Zcop:PPlan:=⟨[],[(2,Zbjf)],[],[],[],[]⟩
theorem Zcrf:Known Tryz.prog Zms Tryz.f51 Zcop.plan (Zg Tryz.f51):=by refine ⟨Tryz.func51,?_,?_,?_,?_,?_⟩<;>kernel_rfl
abbrev Zzm:List Pk:=[Pk.lst [Kd.bool,Kd.lst [Kd.int .u32]]]
abbrev Zyr:List Pk:=[Pk.int .i64]
def Zbfg (p0:List (Bool×List UInt32)) (x7:Int) (next2:(Int×Unit)->Prop) (K:Int->Prop):Prop:=
 IfB (decide ((x7:Int)<(p0.length:Int)))
 ((0:Int) <= x7∧AtN p0 x7.toNat fun x9=>
 WfT Zcw x9->
 (WfPs Zxm (x9,())->
 Zzp x9 (fun x12=>
 WfPs Zyh (x12,())->
 IfB (!x12)
 (K 2)
 (next2 ((IntKind.wrap .i64 (x7+1)),())))))
 ((WfPs Zza (p0,())->
 Zvr p0 (fun x16=>
 WfPs Zwm (x16,())->
 IfB (decide ((x16:Int)>64))
 (K 2)
 (K 0))))
def Zva (p0:List (Bool×List UInt32)) (K:Int->Prop):Prop:=
 Zk (Int×Unit) ((0:Int),()) fun y next=>
 WfY Zbjf.kinds y->
 Zbfg p0 y.1 next K
noncomputable def Zcvj:Tab:=⟨[(Zxt,Zbox),(Zyp,Zbuq)],[]⟩
abbrev Zbxs (x:PkTs Zzm) (K:PkTs Zyr->Prop):Prop:=Zva x.1 (fun r0=>K (r0,()))
theorem Zbnc:FnQ Tryz.prog Zms Zzm Zyr Zbxs:=(Zt Zcrf (tab:=Zcvj) ⟨⟨Zcaa,Zcoi,trivial⟩,trivial⟩ rfl).of_eq (by kernel_rfl)
noncomputable def Zbvr:Ct:=ctRd Zzm Zyr Zbxs
theorem Zcam:Zw Tryz.prog Zms Zbvr:=Zde Zbnc
theorem Zckz:Known Tryz.prog Zll Tryz.f96 Zhi.plan (Zg Tryz.f96):=by refine ⟨Tryz.func96,?_,?_,?_,?_,?_⟩<;>kernel_rfl
noncomputable def Zcrj:Tab:=⟨[],[]⟩
noncomputable def Zbka:Ct:=Zst Tryz.prog Zcrj Zhi (Zg Tryz.f96) Tryz.f96.ntmps Tryz.f96.results.toList
theorem Zcvk:Zw Tryz.prog Zll Zbka:=Zbrx Zckz ⟨trivial,trivial⟩
def Zbjb:PLoop:=⟨[(0,PK.lst [Kd.int .u8]),(7,PK.row Zbk [Kd.bool,Kd.lst [Kd.int .u32]])],[6],[]⟩
def Zbor:PLoop:=⟨[(11,PK.int .u32),(65,PK.int .i64)],[8,63,64],[(8,[PK.bool,PK.row Zba [Kd.int .u32]])]⟩
def Zbcd:PLoop:=⟨[],[0,6,7,8,9],[(8,[PK.bool,PK.row Zba [Kd.int .u32]])]⟩
def Zcrw:PPlan:=⟨[(18,[0,1,4,5,6,2,3,7,8],[])],[(5,Zbjb),(13,Zbor),(4000010,Zbcd)],[],[],[],[]⟩
theorem Zcbl:Known Tryz.prog Zpd Tryz.f75 Zcrw.plan (Zg Tryz.f75):=by refine ⟨Tryz.func75,?_,?_,?_,?_,?_⟩<;>kernel_rfl
abbrev Zbpy:List Pk:=[Pk.lst [Kd.int .u8],Pk.bool]
abbrev Zbsg:List Pk:=[Pk.lst [Kd.bool,Kd.lst [Kd.int .u32]],Pk.int .i64]
def Zcim (K:List (Bool×List UInt32)->Int->Prop):Prop:=
 K ([]:List (Bool×List UInt32)) 7
def Zbtg (b0_1:List UInt8) (j1:Int) (p7:List (Bool×List UInt32)) (x46:UInt8) (x51:UInt8) (next5:(List UInt8×List (Bool×List UInt32)×Unit)->Prop) (c0:Bool) (c1:List UInt32) (K:List (Bool×List UInt32)->Int->Prop):Prop:=
 (0:Int) <= (IntKind.wrap .i64 (2+(IntKind.wrap .i64 ((IntKind.wrap .i64 (x51.toNat:Int))*j1))))∧(IntKind.wrap .i64 (2+(IntKind.wrap .i64 ((IntKind.wrap .i64 (x51.toNat:Int))*j1)))) <= (b0_1.length:Int)∧
 p7.length+([(c0,c1)]:List (Bool×List UInt32)).length <= 4398046511008∧
 next5 ((b0_1.drop ((IntKind.wrap .i64 (2+(IntKind.wrap .i64 ((IntKind.wrap .i64 (x51.toNat:Int))*j1)))).toNat)),(p7++([(c0,c1)]:List (Bool×List UInt32))),())
def Zbig (c0_1:Bool) (x62:List UInt8) (next5:(List UInt8×List (Bool×List UInt32)×Unit)->Prop) (next4000010:(Bool×List UInt32×Unit)->Prop) (as11:Int) (x65:Int) (c0_2:Bool) (c1_2:List UInt32) (next13:(Int×Int×Bool×List UInt32×Unit)->Prop) (K:List (Bool×List UInt32)->Int->Prop):Prop:=
 IfB (decide ((x65:Int)<(x62.length:Int)))
 ((0:Int) <= x65∧AtN x62 x65.toNat fun x67=>
 WfT Zbz x67->
 (0:Int) <= 8∧
 next13 ((Zga .u32 (IntKind.wrap .u32 (as11*256)) (IntKind.wrap .u32 (x67.toNat:Int))),(IntKind.wrap .i64 (x65+1)),c0_2,c1_2,()))
 (c1_2.length+([(ofI .u32 as11)]:List UInt32).length <= 35184372088736∧
 next4000010 (c0_2,(c1_2++([(ofI .u32 as11)]:List UInt32)),()))
def Zbxe (b0_1:List UInt8) (j1:Int) (p7:List (Bool×List UInt32)) (x46:UInt8) (x51:UInt8) (next5:(List UInt8×List (Bool×List UInt32)×Unit)->Prop) (c0_1:Bool) (c1_1:List UInt32) (x62:List UInt8) (next4000010:(Bool×List UInt32×Unit)->Prop) (K:List (Bool×List UInt32)->Int->Prop):Prop:=
 Zk (Int×Int×Bool×List UInt32×Unit) ((0:Int),(0:Int),c0_1,c1_1,()) fun y next=>
 WfY Zbor.kinds y->
 Zbig c0_1 x62 next5 next4000010 y.1 y.2.1 y.2.2.1 y.2.2.2.1 next K
def Zih (b0_1:List UInt8) (j1:Int) (p7:List (Bool×List UInt32)) (next5:(List UInt8×List (Bool×List UInt32)×Unit)->Prop) (j3:Bool) (K:List (Bool×List UInt32)->Int->Prop):Prop:=
 IfB j3
 (Zcim K)
 ((0:Int) <= 0∧AtN b0_1 0 fun x46=>
 WfT Zbz x46->
 (0:Int) <= 1∧AtN b0_1 1 fun x51=>
 WfT Zbz x51->
 (0:Int) <= (IntKind.wrap .i64 (2+(IntKind.wrap .i64 ((IntKind.wrap .i64 (x51.toNat:Int))*j1))))∧(IntKind.wrap .i64 (2+(IntKind.wrap .i64 ((IntKind.wrap .i64 (x51.toNat:Int))*j1)))) <= (b0_1.length:Int)∧
 (0:Int) <= 2∧2 <= ((IntKind.wrap .i64 (2+(IntKind.wrap .i64 ((IntKind.wrap .i64 (x51.toNat:Int))*j1)))).toNat:Int)∧
 IfB (decide ((j1:Int)<1))
 (False)
 (Zle.pre (((b0_1.take ((IntKind.wrap .i64 (2+(IntKind.wrap .i64 ((IntKind.wrap .i64 (x51.toNat:Int))*j1)))).toNat)).drop 2),j1,())∧
 Zim (fun (y:(Bool×List UInt32×Unit))=>WfY Zbcd.kinds y->Zbtg b0_1 j1 p7 x46 x51 next5 y.1 y.2.1 K)
 (fun (y:(Bool×List UInt32×Unit)) (x:(List UInt8×Unit)) (next:(Bool×List UInt32×Unit)->Prop)=>WfY Zbcd.kinds y->WfPs Zle.ps x->Zbxe b0_1 j1 p7 x46 x51 next5 y.1 y.2.1 x.1 next K) (Zle.xs (((b0_1.take ((IntKind.wrap .i64 (2+(IntKind.wrap .i64 ((IntKind.wrap .i64 (x51.toNat:Int))*j1)))).toNat)).drop 2),j1,())) ((((x46.toNat:Int):Int)==1),([]:List UInt32),())))
def Zbnv (j1:Int) (b0_1:List UInt8) (p7:List (Bool×List UInt32)) (next5:(List UInt8×List (Bool×List UInt32)×Unit)->Prop) (K:List (Bool×List UInt32)->Int->Prop):Prop:=
 IfB (decide (((b0_1.length:Int):Int)>0))
 (IfB (decide (((b0_1.length:Int):Int)<2))
 (Zih b0_1 j1 p7 next5 true K)
 ((0:Int) <= 0∧AtN b0_1 0 fun x23=>
 WfT Zbz x23->
 IfB (((x23.toNat:Int):Int) !=1)
 ((0:Int) <= 0∧AtN b0_1 0 fun x28=>
 WfT Zbz x28->
 IfB (((x28.toNat:Int):Int) !=2)
 (Zih b0_1 j1 p7 next5 true K)
 ((0:Int) <= 1∧AtN b0_1 1 fun x35=>
 WfT Zbz x35->
 Zih b0_1 j1 p7 next5 (decide (((IntKind.wrap .i64 ((IntKind.wrap .i64 (x35.toNat:Int))*j1)):Int)>(IntKind.wrap .i64 ((b0_1.length:Int) - 2)))) K))
 ((0:Int) <= 1∧AtN b0_1 1 fun x35_1=>
 WfT Zbz x35_1->
 Zih b0_1 j1 p7 next5 (decide (((IntKind.wrap .i64 ((IntKind.wrap .i64 (x35_1.toNat:Int))*j1)):Int)>(IntKind.wrap .i64 ((b0_1.length:Int) - 2)))) K)))
 ((WfPs Zzm (p7,())->
 Zva p7 (fun x89=>
 WfPs Zyr (x89,())->
 IfB ((x89:Int)==0)
 (K p7 0)
 (K ([]:List (Bool×List UInt32)) 7))))
def Zzf (b0:List UInt8) (j1:Int) (K:List (Bool×List UInt32)->Int->Prop):Prop:=
 Zk (List UInt8×List (Bool×List UInt32)×Unit) (b0,([]:List (Bool×List UInt32)),()) fun y next=>
 WfY Zbjb.kinds y->
 Zbnv j1 y.1 y.2.1 next K
def Zbfy (b0:List UInt8) (four1:Bool) (K:List (Bool×List UInt32)->Int->Prop):Prop:=
 IfB four1
 (Zzf b0 4 K)
 (Zzf b0 2 K)
noncomputable def Zcni:Tab:=⟨[(Zms,Zbvr),(Zll,Zbka)],[(Zhz,Zle)]⟩
abbrev Zcdv (x:PkTs Zbpy) (K:PkTs Zbsg->Prop):Prop:=Zbfy x.1 x.2.1 (fun r0 r1=>K (r0,r1,()))
theorem Zcgg:FnQ Tryz.prog Zpd Zbpy Zbsg Zcdv:=(Zt Zcbl (tab:=Zcni) ⟨⟨Zcam,Zcvk,trivial⟩,⟨Zbij,trivial⟩⟩ rfl).of_eq (by kernel_rfl)
def Zblk:PLoop:=⟨[(3,PK.int .i64),(8,PK.int .i64)],[6,7],[]⟩
def Zcqf:PPlan:=⟨[],[(3,Zblk)],[],[],[],[]⟩
theorem Zctv:Known Tryz.prog Zxz Tryz.f78 Zcqf.plan (Zg Tryz.f78):=by refine ⟨Tryz.func78,?_,?_,?_,?_,?_⟩<;>kernel_rfl
abbrev Zqd:List Pk:=[Pk.lst [Kd.bool,Kd.lst [Kd.int .u32]]]
abbrev Zrk:List Pk:=[Pk.int .i64]
def Zbfa (p0:List (Bool×List UInt32)) (x8:Int) (next3:(Int×Int×Unit)->Prop) (j0:Int) (K:Int->Prop):Prop:=
 next3 (j0,(IntKind.wrap .i64 (x8+1)),())
def Zbav (p0:List (Bool×List UInt32)) (n3:Int) (x8:Int) (next3:(Int×Int×Unit)->Prop) (K:Int->Prop):Prop:=
 IfB (decide ((x8:Int)<(p0.length:Int)))
 ((0:Int) <= x8∧AtN p0 x8.toNat fun x10=>
 WfT Zcw x10->
 IfB x10.1
 (Zbfa p0 x8 next3 (IntKind.wrap .i64 (n3+1)) K)
 (Zbfa p0 x8 next3 (IntKind.wrap .i64 (n3+(x10.2.length:Int))) K))
 (K n3)
def Zof (p0:List (Bool×List UInt32)) (K:Int->Prop):Prop:=
 Zk (Int×Int×Unit) ((0:Int),(0:Int),()) fun y next=>
 WfY Zblk.kinds y->
 Zbav p0 y.1 y.2.1 next K
noncomputable def Zcmt:Tab:=⟨[],[]⟩
abbrev Zbvt (x:PkTs Zqd) (K:PkTs Zrk->Prop):Prop:=Zof x.1 (fun r0=>K (r0,()))
theorem Zcic:FnQ Tryz.prog Zxz Zqd Zrk Zbvt:=(Zt Zctv (tab:=Zcmt) ⟨trivial,trivial⟩ rfl).of_eq (by kernel_rfl)
noncomputable def Zbso:Ct:=ctRd Zqd Zrk Zbvt
theorem Zcca:Zw Tryz.prog Zxz Zbso:=Zde Zcic
theorem Zcev:Known Tryz.prog Zwx Tryz.f97 Zhi.plan (Zg Tryz.f97):=by refine ⟨Tryz.func97,?_,?_,?_,?_,?_⟩<;>kernel_rfl
abbrev Zzd:List Pk:=[Pk.lst [Kd.int .u32]]
abbrev Zzi:List Pk:=[Pk.own Zba [Kd.int .u32]]
def Zbeh (s0:List UInt32) (K:List UInt32->Prop):Prop:=
 ∀isnil:Bool,(isnil=true->s0.length=0)->
 IfB isnil
 (K ([]:List UInt32))
 (([]:List UInt32).length+s0.length <= 35184372088736∧
 K (([]:List UInt32)++s0))
noncomputable def Zcga:Tab:=⟨[],[]⟩
abbrev Zbkx (x:PkTs Zzd) (K:PkTs Zzi->Prop):Prop:=Zbeh x.1 (fun r0=>K (r0,()))
theorem Zcof:FnQ Tryz.prog Zwx Zzd Zzi Zbkx:=(Zt Zcev (tab:=Zcga) ⟨trivial,trivial⟩ rfl).of_eq (by kernel_rfl)
noncomputable def Zblc:Ct:=Zcy Zzd Zzi Zbkx
theorem Zckj:Zw Tryz.prog Zwx Zblc:=Zdj Zcof
def Zbky:PLoop:=⟨[(3,PK.row Zbk [Kd.bool,Kd.lst [Kd.int .u32]]),(11,PK.int .i64)],[9,10],[]⟩
def Zclz:PPlan:=⟨[(5,[0,1,2,3,4,5,6,7,8,9],[17])],[(3,Zbky)],[],[],[],[]⟩
theorem Zcjo:Known Tryz.prog Zrv Tryz.f79 Zclz.plan (Zg Tryz.f79):=by refine ⟨Tryz.func79,?_,?_,?_,?_,?_⟩<;>kernel_rfl
abbrev Zne:List Pk:=[Pk.lst [Kd.bool,Kd.lst [Kd.int .u32]]]
abbrev Zln:List Pk:=[Pk.own Zbk [Kd.bool,Kd.lst [Kd.int .u32]]]
def Zbba (p0:List (Bool×List UInt32)) (out3:List (Bool×List UInt32)) (x11:Int) (next3:(List (Bool×List UInt32)×Int×Unit)->Prop) (K:List (Bool×List UInt32)->Prop):Prop:=
 IfB (decide ((x11:Int)<(p0.length:Int)))
 ((0:Int) <= x11∧AtN p0 x11.toNat fun x13=>
 WfT Zcw x13->
 (WfPs Zzd (x13.2,())->
 Zbeh x13.2 (fun x20=>
 WfPs Zzi (x20,())->
 out3.length+([(x13.1,x20)]:List (Bool×List UInt32)).length <= 4398046511008∧
 next3 ((out3++([(x13.1,x20)]:List (Bool×List UInt32))),(IntKind.wrap .i64 (x11+1)),()))))
 (K out3)
def Znd (p0:List (Bool×List UInt32)) (K:List (Bool×List UInt32)->Prop):Prop:=
 (0:Int) <= 0∧(0:Int) <= (p0.length:Int)∧((p0.length:Int):Int) <= 1000000000∧
 Zk (List (Bool×List UInt32)×Int×Unit) ((List.replicate 0 ((false,([]:List UInt32)):Bool×List UInt32)),(0:Int),()) fun y next=>
 WfY Zbky.kinds y->
 Zbba p0 y.1 y.2.1 next K
noncomputable def Zcrx:Tab:=⟨[(Zwx,Zblc)],[]⟩
abbrev Zbqw (x:PkTs Zne) (K:PkTs Zln->Prop):Prop:=Znd x.1 (fun r0=>K (r0,()))
theorem Zcge:FnQ Tryz.prog Zrv Zne Zln Zbqw:=(Zt Zcjo (tab:=Zcrx) ⟨⟨Zckj,trivial⟩,trivial⟩ rfl).of_eq (by kernel_rfl)
noncomputable def Zbew:Ct:=Zcy Zne Zln Zbqw
theorem Zbja:Zw Tryz.prog Zrv Zbew:=Zdj Zcge
def Zbro:PLoop:=⟨[(1,PK.int .i64),(5,PK.row Zbk [Kd.bool,Kd.lst [Kd.int .u32]]),(11,PK.int .i64)],[9,10],[]⟩
def Zcue:PPlan:=⟨[],[(3,Zbro)],[],[],[],[]⟩
theorem Zcur:Known Tryz.prog Ztj Tryz.f80 Zcue.plan (Zg Tryz.f80):=by refine ⟨Tryz.func80,?_,?_,?_,?_,?_⟩<;>kernel_rfl
abbrev Zbak:List Pk:=[Pk.lst [Kd.bool,Kd.lst [Kd.int .u32]],Pk.int .i64]
abbrev Ztr:List Pk:=[Pk.own Zbk [Kd.bool,Kd.lst [Kd.int .u32]]]
def Zxn (out5:List (Bool×List UInt32)) (x14:Bool×List UInt32) (x9:List (Bool×List UInt32)) (x11:Int) (next3:(Int×List (Bool×List UInt32)×Int×Unit)->Prop) (j0:Int) (j3:List UInt32) (K:List (Bool×List UInt32)->Prop):Prop:=
 out5.length+([(x14.1,j3)]:List (Bool×List UInt32)).length <= 4398046511008∧
 next3 (j0,(out5++([(x14.1,j3)]:List (Bool×List UInt32))),(IntKind.wrap .i64 (x11+1)),())
def Zbvk (x9:List (Bool×List UInt32)) (n1_1:Int) (out5:List (Bool×List UInt32)) (x11:Int) (next3:(Int×List (Bool×List UInt32)×Int×Unit)->Prop) (K:List (Bool×List UInt32)->Prop):Prop:=
 IfB (decide ((x11:Int)<(x9.length:Int)))
 ((0:Int) <= x11∧x11<(x9.length:Int)∧
 AtN x9 x11.toNat fun x14=>
 WfT Zcw x14->
 IfB (decide ((n1_1:Int) <= 0))
 (K out5)
 (IfB x14.1
 (Zxn out5 x14 x9 x11 next3 (IntKind.wrap .i64 (n1_1 - 1)) x14.2 K)
 ((0:Int) <= (min n1_1 (x14.2.length:Int))∧(min n1_1 (x14.2.length:Int)) <= (x14.2.length:Int)∧
 Zxn out5 x14 x9 x11 next3 (IntKind.wrap .i64 (n1_1 - ((x14.2.take ((min n1_1 (x14.2.length:Int)).toNat)).length:Int))) (x14.2.take ((min n1_1 (x14.2.length:Int)).toNat)) K)))
 (K out5)
def Zbai (p0:List (Bool×List UInt32)) (n1:Int) (K:List (Bool×List UInt32)->Prop):Prop:=
 (WfPs Zne (p0,())->
 Znd p0 (fun x9=>
 WfPs Zln (x9,())->
 Zk (Int×List (Bool×List UInt32)×Int×Unit) (n1,([]:List (Bool×List UInt32)),(0:Int),()) fun y next=>
 WfY Zbro.kinds y->
 Zbvk x9 y.1 y.2.1 y.2.2.1 next K))
noncomputable def Zcsv:Tab:=⟨[(Zrv,Zbew)],[]⟩
abbrev Zbms (x:PkTs Zbak) (K:PkTs Ztr->Prop):Prop:=Zbai x.1 x.2.1 (fun r0=>K (r0,()))
theorem Zchz:FnQ Tryz.prog Ztj Zbak Ztr Zbms:=(Zt Zcur (tab:=Zcsv) ⟨⟨Zbja,trivial⟩,trivial⟩ rfl).of_eq (by kernel_rfl)
noncomputable def Zbuh:Ct:=Zcy Zbak Ztr Zbms
theorem Zciy:Zw Tryz.prog Ztj Zbuh:=Zdj Zchz
def Zclq:PPlan:=⟨[],[],[25],[],[],[]⟩
theorem Zcgt:Known Tryz.prog Zsz Tryz.f98 Zclq.plan (Zg Tryz.f98):=by refine ⟨Tryz.func98,?_,?_,?_,?_,?_⟩<;>kernel_rfl
abbrev Ztl:List Pk:=[Pk.nil,Pk.int .i64]
abbrev Zue:List Pk:=[Pk.own Zba [Kd.int .u32]]
def Zuy (n1:Int) (K:List UInt32->Prop):Prop:=
 IfB (decide ((n1:Int)<0))
 (False)
 (IfB (decide (((IntKind.wrap .i64 (n1 - (IntKind.wrap .i64 (0 - 0)))):Int)>0))
 ((0:Int) <= 0∧0 <= (0:Int)∧
 (0:Int)<(IntKind.wrap .i64 (n1 - (IntKind.wrap .i64 (0 - 0))))∧(IntKind.wrap .i64 (n1 - (IntKind.wrap .i64 (0 - 0)))) <= 1000000000∧
 (0:Int) <= 0∧0 <= ((List.replicate (IntKind.wrap .i64 (n1 - (IntKind.wrap .i64 (0 - 0)))).toNat ((ofI .u32 0):UInt32)).length:Int)∧
 K ((List.replicate (IntKind.wrap .i64 (n1 - (IntKind.wrap .i64 (0 - 0)))).toNat ((ofI .u32 0):UInt32)).take 0))
 (K ([]:List UInt32)))
noncomputable def Zcom:Tab:=⟨[],[]⟩
abbrev Zbvv (x:PkTs Ztl) (K:PkTs Zue->Prop):Prop:=Zuy x.2.1 (fun r0=>K (r0,()))
theorem Zcpa:FnQ Tryz.prog Zsz Ztl Zue Zbvv:=(Zt Zcgt (tab:=Zcom) ⟨trivial,trivial⟩ rfl).of_eq (by kernel_rfl)
noncomputable def Zboz:Ct:=Zcy Ztl Zue Zbvv
theorem Zcua:Zw Tryz.prog Zsz Zboz:=Zdj Zcpa
def Zbtm:PLoop:=⟨[(3,PK.int .i64),(11,PK.int .i64)],[0,9,10],[]⟩
def Zbut:PLoop:=⟨[(6,PK.row Zba [Kd.int .u32]),(27,PK.int .i64)],[25,26],[]⟩
def Zcqy:PPlan:=⟨[],[(3,Zbtm),(11,Zbut)],[],[],[],[]⟩
theorem Zcki:Known Tryz.prog Ztx Tryz.f81 Zcqy.plan (Zg Tryz.f81):=by refine ⟨Tryz.func81,?_,?_,?_,?_,?_⟩<;>kernel_rfl
abbrev Zzl:List Pk:=[Pk.lst [Kd.lst [Kd.int .u32]]]
abbrev Zwt:List Pk:=[Pk.own Zba [Kd.int .u32]]
def Zbfb (slices0:List (List UInt32)) (newslice6:List UInt32) (x27:Int) (next11:(List UInt32×Int×Unit)->Prop) (K:List UInt32->Prop):Prop:=
 IfB (decide ((x27:Int)<(slices0.length:Int)))
 ((0:Int) <= x27∧AtN slices0 x27.toNat fun x29=>
 WfT Zbxc x29->
 newslice6.length+x29.length <= 35184372088736∧
 next11 ((newslice6++x29),(IntKind.wrap .i64 (x27+1)),()))
 (K newslice6)
def Zbek (slices0:List (List UInt32)) (size3:Int) (x11:Int) (next3:(Int×Int×Unit)->Prop) (K:List UInt32->Prop):Prop:=
 IfB (decide ((x11:Int)<(slices0.length:Int)))
 ((0:Int) <= x11∧AtN slices0 x11.toNat fun x13=>
 WfT Zbxc x13->
 IfB (decide (((IntKind.wrap .i64 (size3+(x13.length:Int))):Int)<0))
 (False)
 (next3 ((IntKind.wrap .i64 (size3+(x13.length:Int))),(IntKind.wrap .i64 (x11+1)),())))
 ((WfPs Ztl ((),size3,())->
 Zuy size3 (fun x24=>
 WfPs Zue (x24,())->
 Zk (List UInt32×Int×Unit) (x24,(0:Int),()) fun y next=>
 WfY Zbut.kinds y->
 Zbfb slices0 y.1 y.2.1 next K)))
def Zyf (slices0:List (List UInt32)) (K:List UInt32->Prop):Prop:=
 Zk (Int×Int×Unit) ((0:Int),(0:Int),()) fun y next=>
 WfY Zbtm.kinds y->
 Zbek slices0 y.1 y.2.1 next K
noncomputable def Zcli:Tab:=⟨[(Zsz,Zboz)],[]⟩
abbrev Zbyb (x:PkTs Zzl) (K:PkTs Zwt->Prop):Prop:=Zyf x.1 (fun r0=>K (r0,()))
theorem Zckl:FnQ Tryz.prog Ztx Zzl Zwt Zbyb:=(Zt Zcki (tab:=Zcli) ⟨⟨Zcua,trivial⟩,trivial⟩ rfl).of_eq (by kernel_rfl)
noncomputable def Zbqv:Ct:=Zcy Zzl Zwt Zbyb
theorem Zbzl:Zw Tryz.prog Ztx Zbqv:=Zdj Zckl
theorem Zciu:Known Tryz.prog Ztf Tryz.f50 Zhi.plan (Zg Tryz.f50):=by refine ⟨Tryz.func50,?_,?_,?_,?_,?_⟩<;>kernel_rfl
abbrev Zboq:List Pk:=[Pk.lst [Kd.bool,Kd.lst [Kd.int .u32]],Pk.lst [Kd.bool,Kd.lst [Kd.int .u32]]]
abbrev Zbus:List Pk:=[Pk.lst [Kd.bool,Kd.lst [Kd.int .u32]]]
def Zyx (j0:List (Bool×List UInt32)) (j1:List (Bool×List UInt32)) (K:List (Bool×List UInt32)->Prop):Prop:=
 j0.length+j1.length <= 4398046511008∧
 K (j0++j1)
def Zkr (x20:List (Bool×List UInt32)) (x22:List (Bool×List UInt32)) (j3:Bool) (K:List (Bool×List UInt32)->Prop):Prop:=
 IfB j3
 ((0:Int) <= (IntKind.wrap .i64 ((x20.length:Int) - 1))∧(IntKind.wrap .i64 ((x20.length:Int) - 1))<(x20.length:Int)∧
 AtN x20 ((IntKind.wrap .i64 ((x20.length:Int) - 1)).toNat) fun x54=>
 WfT Zcw x54->
 (0:Int) <= 0∧0<(x22.length:Int)∧
 AtN x22 0 fun x58=>
 WfT Zcw x58->
 (WfPs Zzl (([x54.2,x58.2]:List (List UInt32)),())->
 Zyf ([x54.2,x58.2]:List (List UInt32)) (fun x60=>
 WfPs Zwt (x60,())->
 (0:Int) <= (IntKind.wrap .i64 ((x20.length:Int) - 1))∧(IntKind.wrap .i64 ((x20.length:Int) - 1))<(x20.length:Int)∧
 AtN x20 ((IntKind.wrap .i64 ((x20.length:Int) - 1)).toNat) fun el=>
 WfT Zcw el->
 (0:Int) <= 1∧1 <= (x22.length:Int)∧
 Zyx (x20.set ((IntKind.wrap .i64 ((x20.length:Int) - 1)).toNat) (el.1,x60)) (x22.drop 1) K)))
 (Zyx x20 x22 K)
def Zbde (two0:List (Bool×List UInt32)) (four1:List (Bool×List UInt32)) (K:List (Bool×List UInt32)->Prop):Prop:=
 (WfPs Zqd (two0,())->
 Zof two0 (fun x10=>
 WfPs Zrk (x10,())->
 (WfPs Zqd (four1,())->
 Zof four1 (fun x12=>
 WfPs Zrk (x12,())->
 IfB (decide (((IntKind.wrap .i64 (x10 - x12)):Int)<0))
 ((WfPs Zne (two0,())->
 Znd two0 (fun x17=>
 WfPs Zln (x17,())->
 K x17)))
 ((WfPs Zbak (two0,(IntKind.wrap .i64 (x10 - x12)),())->
 Zbai two0 (IntKind.wrap .i64 (x10 - x12)) (fun x20=>
 WfPs Ztr (x20,())->
 (WfPs Zne (four1,())->
 Znd four1 (fun x22=>
 WfPs Zln (x22,())->
 IfB (decide (((IntKind.wrap .i64 ((x20.length:Int) - 1)):Int)≥0))
 (IfB (decide (((x22.length:Int):Int)>0))
 ((0:Int) <= (IntKind.wrap .i64 ((x20.length:Int) - 1))∧(IntKind.wrap .i64 ((x20.length:Int) - 1))<(x20.length:Int)∧
 AtN x20 ((IntKind.wrap .i64 ((x20.length:Int) - 1)).toNat) fun x38=>
 WfT Zcw x38->
 IfB (!x38.1)
 ((0:Int) <= 0∧0<(x22.length:Int)∧
 AtN x22 0 fun x45=>
 WfT Zcw x45->
 Zkr x20 x22 (!x45.1) K)
 (Zkr x20 x22 false K))
 (Zkr x20 x22 false K))
 (Zkr x20 x22 false K))))))))))
noncomputable def Zcbb:Tab:=⟨[(Zxz,Zbso),(Zrv,Zbew),(Ztj,Zbuh),(Ztx,Zbqv)],[]⟩
abbrev Zbzw (x:PkTs Zboq) (K:PkTs Zbus->Prop):Prop:=Zbde x.1 x.2.1 (fun r0=>K (r0,()))
theorem Zckc:FnQ Tryz.prog Ztf Zboq Zbus Zbzw:=(Zt Zciu (tab:=Zcbb) ⟨⟨Zcca,Zbja,Zciy,Zbzl,trivial⟩,trivial⟩ rfl).of_eq (by kernel_rfl)
theorem Zcfe:Known Tryz.prog Zzq Tryz.f23 Zhi.plan (Zg Tryz.f23):=by refine ⟨Tryz.func23,?_,?_,?_,?_,?_⟩<;>kernel_rfl
abbrev Zbma:List Pk:=[Pk.lst [Kd.int .u8]]
abbrev Zbps:List Pk:=[Pk.agg [Kd.int .u8,Kd.int .i64,Kd.lst [Kd.int .u8],Kd.int .i64],Pk.bool]
def Zbpb (K:(UInt8×Int×List UInt8×Int)->Bool->Prop):Prop:=
 K ((ofI .u8 0),0,([]:List UInt8),0) false
def Zbwy (K:(UInt8×Int×List UInt8×Int)->Bool->Prop):Prop:=
 Zbpb K
def Zvk (b0:List UInt8) (j5:Int) (j6:Int) (K:(UInt8×Int×List UInt8×Int)->Bool->Prop):Prop:=
 IfB (decide ((j6:Int) <= (IntKind.wrap .i64 ((b0.length:Int) - j5))))
 ((0:Int) <= 0∧AtN b0 0 fun x37=>
 WfT Zbz x37->
 (0:Int) <= 1∧AtN b0 1 fun x41=>
 WfT Zbz x41->
 (0:Int) <= (IntKind.wrap .i64 (j5+j6))∧(IntKind.wrap .i64 (j5+j6)) <= (b0.length:Int)∧
 (0:Int) <= j5∧j5 <= ((IntKind.wrap .i64 (j5+j6)).toNat:Int)∧
 K ((ofI .u8 (Zft .u8 (x37.toNat:Int) 192)),(IntKind.wrap .i64 (x41.toNat:Int)),((b0.take ((IntKind.wrap .i64 (j5+j6)).toNat)).drop j5.toNat),(IntKind.wrap .i64 (j5+j6))) true)
 (Zbpb K)
def Zbhp (b0:List UInt8) (K:(UInt8×Int×List UInt8×Int)->Bool->Prop):Prop:=
 IfB (decide (((b0.length:Int):Int)<3))
 (Zbwy K)
 ((0:Int) <= 2∧AtN b0 2 fun x11=>
 WfT Zbz x11->
 (0:Int) <= 0∧AtN b0 0 fun x15=>
 WfT Zbz x15->
 IfB (((Zft .u8 (x15.toNat:Int) 16):Int) !=0)
 (IfB (decide (((b0.length:Int):Int)<4))
 (Zbwy K)
 ((0:Int) <= 8∧
 (0:Int) <= 3∧AtN b0 3 fun x26=>
 WfT Zbz x26->
 Zvk b0 4 (Zga .i64 (IntKind.wrap .i64 ((IntKind.wrap .i64 (x11.toNat:Int))*256)) (IntKind.wrap .i64 (x26.toNat:Int))) K))
 (Zvk b0 3 (IntKind.wrap .i64 (x11.toNat:Int)) K))
noncomputable def Zbzf:Tab:=⟨[],[]⟩
abbrev Zcmo (x:PkTs Zbma) (K:PkTs Zbps->Prop):Prop:=Zbhp x.1 (fun r0 r1=>K (r0,r1,()))
theorem Zclc:FnQ Tryz.prog Zzq Zbma Zbps Zcmo:=(Zt Zcfe (tab:=Zbzf) ⟨trivial,trivial⟩ rfl).of_eq (by kernel_rfl)
theorem Zclk:Known Tryz.prog Zhf Tryz.f49 Zhi.plan (Zg Tryz.f49):=by refine ⟨Tryz.func49,?_,?_,?_,?_,?_⟩<;>kernel_rfl
abbrev Zbsb:List Pk:=[Pk.lst [Kd.int .u8]]
abbrev Zbuj:List Pk:=[Pk.int .u32]
def Zbfk (b0:List UInt8) (K:Int->Prop):Prop:=
 (0:Int) <= 0∧AtN b0 0 fun x4=>
 WfT Zbz x4->
 (0:Int) <= 24∧
 (0:Int) <= 1∧AtN b0 1 fun x9=>
 WfT Zbz x9->
 (0:Int) <= 16∧
 (0:Int) <= 2∧AtN b0 2 fun x15=>
 WfT Zbz x15->
 (0:Int) <= 8∧
 (0:Int) <= 3∧AtN b0 3 fun x21=>
 WfT Zbz x21->
 K (Zga .u32 (Zga .u32 (Zga .u32 (IntKind.wrap .u32 ((IntKind.wrap .u32 (x4.toNat:Int))*16777216)) (IntKind.wrap .u32 ((IntKind.wrap .u32 (x9.toNat:Int))*65536))) (IntKind.wrap .u32 ((IntKind.wrap .u32 (x15.toNat:Int))*256))) (IntKind.wrap .u32 (x21.toNat:Int)))
noncomputable def Zcda:Tab:=⟨[],[]⟩
abbrev Zcqv (x:PkTs Zbsb) (K:PkTs Zbuj->Prop):Prop:=Zbfk x.1 (fun r0=>K (r0,()))
theorem Zcbz:FnQ Tryz.prog Zhf Zbsb Zbuj Zcqv:=(Zt Zclk (tab:=Zcda) ⟨trivial,trivial⟩ rfl).of_eq (by kernel_rfl)
theorem Zcbx:Known Tryz.prog Zwl Tryz.f76 Zhi.plan (Zg Tryz.f76):=by refine ⟨Tryz.func76,?_,?_,?_,?_,?_⟩<;>kernel_rfl
abbrev Zbkv:List Pk:=[Pk.int .u32]
abbrev Zbqj:List Pk:=[Pk.bool]
def Zbcv (a0:Int) (K:Bool->Prop):Prop:=
 IfB ((a0:Int) !=0)
 (K (decide ((a0:Int)<3758096384)))
 (K false)
noncomputable def Zcgp:Tab:=⟨[],[]⟩
abbrev Zcdh (x:PkTs Zbkv) (K:PkTs Zbqj->Prop):Prop:=Zbcv x.1 (fun r0=>K (r0,()))
theorem Zcuz:FnQ Tryz.prog Zwl Zbkv Zbqj Zcdh:=(Zt Zcbx (tab:=Zcgp) ⟨trivial,trivial⟩ rfl).of_eq (by kernel_rfl)
theorem Zcoe:Known Tryz.prog Zzw Tryz.f45 Zhi.plan (Zg Tryz.f45):=by refine ⟨Tryz.func45,?_,?_,?_,?_,?_⟩<;>kernel_rfl
abbrev Zbph:List Pk:=[Pk.int .i64]
abbrev Zbtu:List Pk:=[Pk.int .u8,Pk.bool]
def Zrq (j0:Bool) (K:Int->Bool->Prop):Prop:=
 IfB j0
 (K 192 true)
 (K 0 false)
def Zbpq (kind0:Int) (K:Int->Bool->Prop):Prop:=
 IfB ((kind0:Int)==4)
 (K 128 true)
 (IfB ((kind0:Int)==7)
 (Zrq ((kind0:Int)==7) K)
 (IfB ((kind0:Int)==8)
 (Zrq ((kind0:Int)==8) K)
 (IfB ((kind0:Int)==17)
 (Zrq ((kind0:Int)==17) K)
 (Zrq ((kind0:Int)==18) K))))
def Znw (kind0:Int) (j1:Bool) (K:Int->Bool->Prop):Prop:=
 IfB j1
 (K 64 true)
 (Zbpq kind0 K)
def Zbeq (kind0:Int) (K:Int->Bool->Prop):Prop:=
 IfB ((kind0:Int)==1)
 (Znw kind0 ((kind0:Int)==1) K)
 (IfB ((kind0:Int)==2)
 (Znw kind0 ((kind0:Int)==2) K)
 (IfB ((kind0:Int)==3)
 (Znw kind0 ((kind0:Int)==3) K)
 (IfB ((kind0:Int)==5)
 (Znw kind0 ((kind0:Int)==5) K)
 (Znw kind0 ((kind0:Int)==6) K))))
noncomputable def Zbza:Tab:=⟨[],[]⟩
abbrev Zcmv (x:PkTs Zbph) (K:PkTs Zbtu->Prop):Prop:=Zbeq x.1 (fun r0 r1=>K (r0,r1,()))
theorem Zclt:FnQ Tryz.prog Zzw Zbph Zbtu Zcmv:=(Zt Zcoe (tab:=Zbza) ⟨trivial,trivial⟩ rfl).of_eq (by kernel_rfl)
theorem Zcke:Known Tryz.prog Zqz Tryz.f26 Zhi.plan (Zg Tryz.f26):=by refine ⟨Tryz.func26,?_,?_,?_,?_,?_⟩<;>kernel_rfl
abbrev Zbmr:List Pk:=[Pk.lst [Kd.int .u8]]
abbrev Zbuk:List Pk:=[Pk.lst [Kd.int .u8]]
def Zbud (s0:List UInt8) (K:List UInt8->Prop):Prop:=
 ∀isnil:Bool,(isnil=true->s0.length=0)->
 IfB isnil
 (K ([]:List UInt8))
 (([]:List UInt8).length+s0.length <= 140737488355232∧
 K (([]:List UInt8)++s0))
noncomputable def Zcuh:Tab:=⟨[],[]⟩
abbrev Zbyr (x:PkTs Zbmr) (K:PkTs Zbuk->Prop):Prop:=Zbud x.1 (fun r0=>K (r0,()))
theorem Zclv:FnQ Tryz.prog Zqz Zbmr Zbuk Zbyr:=(Zt Zcke (tab:=Zcuh) ⟨trivial,trivial⟩ rfl).of_eq (by kernel_rfl)
end Go.Proofs.YthdffaojeghaeaaGreatDoor
