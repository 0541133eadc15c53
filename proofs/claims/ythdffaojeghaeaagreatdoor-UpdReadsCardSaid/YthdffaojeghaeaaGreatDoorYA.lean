/-
  SOME FUNCTIONS OVER PLAIN DATA:printed by a program of ours over this translation.
-/
import Derived.Test.YthdffaojeghaeaaGreatDoorBA
import Derived.Test.YthdffaojeghaeaaGreatDoorQ
import Derived.Test.YthdffaojeghaeaaGreatDoorRB
set_option linter.all false
section
set_option maxRecDepth 100000
set_option maxHeartbeats 4000000
namespace Go.Proofs.YthdffaojeghaeaaGreatDoor
open Go.Sh
def Zbnf:PLoop:=⟨[(3,PK.int .i64),(4,PK.int .i64)],[0],[]⟩
def Zbtb:PLoop:=⟨[(5,PK.int .i64)],[0,3,4],[]⟩
def Zbne:PPlan:=⟨[],[(3,Zbnf),(8,Zbtb)],[],[],[],[]⟩
theorem Zcai:Known Tryz.prog Znu Tryz.f35 Zbne.plan (Zg Tryz.f35):=by refine ⟨Tryz.func35,?_,?_,?_,?_,?_⟩<;>kernel_rfl
abbrev Zsn:List Pk:=[Pk.lst [Kd.bool,Kd.lst [Kd.int .u32]]]
abbrev Zsc:List Pk:=[Pk.int .i64]
def Zbha (p0:List (Bool×List UInt32)) (n3:Int) (i4:Int) (next3:(Int×Int×Unit)->Prop) (k5:Int) (next8:(Int×Unit)->Prop) (K:Int->Prop):Prop:=
 (0:Int) <= i4∧AtN p0 i4.toNat fun x31=>
 WfT Zcw x31->
 IfB (decide ((k5:Int)<(x31.2.length:Int)))
 ((0:Int) <= i4∧AtN p0 i4.toNat fun x40=>
 WfT Zcw x40->
 (0:Int) <= k5∧AtN x40.2 k5.toNat fun x44=>
 WfT Zmr x44->
 IfB (((x44.toNat:Int):Int)==0)
 (K 2)
 (next8 ((IntKind.wrap .i64 (k5+1)),())))
 ((0:Int) <= i4∧AtN p0 i4.toNat fun x50=>
 WfT Zcw x50->
 IfB (decide (((IntKind.wrap .i64 (n3+(x50.2.length:Int))):Int)>64))
 (K 2)
 (next3 ((IntKind.wrap .i64 (n3+(x50.2.length:Int))),(IntKind.wrap .i64 (i4+1)),())))
def Zbwj (p0:List (Bool×List UInt32)) (n3:Int) (i4:Int) (next3:(Int×Int×Unit)->Prop) (j3:Bool) (K:Int->Prop):Prop:=
 IfB j3
 (K 2)
 (Zk (Int×Unit) ((0:Int),()) fun y next=>
 WfY Zbtb.kinds y->
 Zbha p0 n3 i4 next3 y.1 next K)
def Zbbe (p0:List (Bool×List UInt32)) (n3:Int) (i4:Int) (next3:(Int×Int×Unit)->Prop) (K:Int->Prop):Prop:=
 IfB (decide ((i4:Int)<(p0.length:Int)))
 ((0:Int) <= i4∧AtN p0 i4.toNat fun x14=>
 WfT Zcw x14->
 IfB (((x14.2.length:Int):Int)==0)
 (Zbwj p0 n3 i4 next3 true K)
 ((0:Int) <= i4∧AtN p0 i4.toNat fun x22=>
 WfT Zcw x22->
 Zbwj p0 n3 i4 next3 (decide (((x22.2.length:Int):Int)>255)) K))
 (K 0)
def Zyt (p0:List (Bool×List UInt32)) (K:Int->Prop):Prop:=
 Zk (Int×Int×Unit) ((0:Int),(0:Int),()) fun y next=>
 WfY Zbnf.kinds y->
 Zbbe p0 y.1 y.2.1 next K
noncomputable def Zbla:Tab:=⟨[],[]⟩
abbrev Zbbc (x:PkTs Zsn) (K:PkTs Zsc->Prop):Prop:=Zyt x.1 (fun r0=>K (r0,()))
theorem Zcos:Zbbc=fun x K=>Zbo Tryz.prog Zbla Zbne (Zg Tryz.f35) (parS Zsn x) (PRet Tryz.prog Tryz.f35.results.toList fun a st=>outP Zsc st a K):=by kernel_rfl
theorem Zbml:FnQ Tryz.prog Znu Zsn Zsc Zbbc:=(Zt Zcai (tab:=Zbla) ⟨trivial,trivial⟩ rfl).of_eq Zcos
noncomputable def Zbjh:Ct:=ctRd Zsn Zsc Zbbc
theorem Zcri:Zw Tryz.prog Znu Zbjh:=Zde Zbml
def Zbkc:PLoop:=⟨[(7,PK.row Zbk [Kd.bool,Kd.lst [Kd.int .u32]]),(8,PK.int .i64)],[0,6],[]⟩
def Zbwk:PLoop:=⟨[(8,PK.int .i64),(11,PK.int .i64)],[0,6,7,9,10],[(9,[PK.bool,PK.row Zba [Kd.int .u32]])]⟩
def Zboy:PLoop:=⟨[(12,PK.int .u32),(13,PK.int .i64)],[0,6,7,8,9,10,11],[(9,[PK.bool,PK.row Zba [Kd.int .u32]])]⟩
def Zbxp:PPlan:=⟨[],[(6,Zbkc),(13,Zbwk),(17,Zboy)],[],[],[],[]⟩
theorem Zcap:Known Tryz.prog Zsb Tryz.f55 Zbxp.plan (Zg Tryz.f55):=by refine ⟨Tryz.func55,?_,?_,?_,?_,?_⟩<;>kernel_rfl
abbrev Zbhs:List Pk:=[Pk.lst [Kd.int .u8],Pk.bool]
abbrev Zbed:List Pk:=[Pk.lst [Kd.bool,Kd.lst [Kd.int .u32]],Pk.int .i64]
def Zbdc (b0:List UInt8) (j1:Int) (out7:List (Bool×List UInt32)) (i8_1:Int) (c0:Bool) (x64:UInt8) (k11:Int) (next6:(List (Bool×List UInt32)×Int×Unit)->Prop) (next13:(Int×Int×Bool×List UInt32×Unit)->Prop) (as12:Int) (j13:Int) (c0_1:Bool) (c1_1:List UInt32) (next17:(Int×Int×Bool×List UInt32×Unit)->Prop) (K:List (Bool×List UInt32)->Int->Prop):Prop:=
 IfB (decide ((j13:Int)<j1))
 ((0:Int) <= (IntKind.wrap .i64 (i8_1+j13))∧AtN b0 (IntKind.wrap .i64 (i8_1+j13)).toNat fun x85=>
 WfT Zbz x85->
 next17 ((IntKind.wrap .u32 ((IntKind.wrap .u32 (256*as12))+(IntKind.wrap .u32 (x85.toNat:Int)))),(IntKind.wrap .i64 (j13+1)),c0_1,c1_1,()))
 (c1_1.length+([(ofI .u32 as12)]:List UInt32).length <= 35184372088736∧
 next13 ((IntKind.wrap .i64 (i8_1+j1)),(IntKind.wrap .i64 (k11+1)),c0_1,(c1_1++([(ofI .u32 as12)]:List UInt32)),()))
def Zbfc (b0:List UInt8) (j1:Int) (out7:List (Bool×List UInt32)) (x57:UInt8) (x64:UInt8) (next6:(List (Bool×List UInt32)×Int×Unit)->Prop) (i8_1:Int) (k11:Int) (c0:Bool) (c1:List UInt32) (next13:(Int×Int×Bool×List UInt32×Unit)->Prop) (K:List (Bool×List UInt32)->Int->Prop):Prop:=
 IfB (decide ((k11:Int)<(IntKind.wrap .i64 (x64.toNat:Int))))
 (Zk (Int×Int×Bool×List UInt32×Unit) ((0:Int),(0:Int),c0,c1,()) fun y next=>
 WfY Zboy.kinds y->
 Zbdc b0 j1 out7 i8_1 c0 x64 k11 next6 next13 y.1 y.2.1 y.2.2.1 y.2.2.2.1 next K)
 (out7.length+([(c0,c1)]:List (Bool×List UInt32)).length <= 4398046511008∧
 next6 ((out7++([(c0,c1)]:List (Bool×List UInt32))),i8_1,()))
def Zjb (b0:List UInt8) (j1:Int) (out7:List (Bool×List UInt32)) (i8:Int) (next6:(List (Bool×List UInt32)×Int×Unit)->Prop) (j4:Bool) (K:List (Bool×List UInt32)->Int->Prop):Prop:=
 IfB j4
 (K ([]:List (Bool×List UInt32)) 7)
 ((0:Int) <= i8∧AtN b0 i8.toNat fun x57=>
 WfT Zbz x57->
 (0:Int) <= (IntKind.wrap .i64 (i8+1))∧AtN b0 (IntKind.wrap .i64 (i8+1)).toNat fun x64=>
 WfT Zbz x64->
 Zk (Int×Int×Bool×List UInt32×Unit) ((IntKind.wrap .i64 (i8+2)),(0:Int),(((x57.toNat:Int):Int)==1),([]:List UInt32),()) fun y next=>
 WfY Zbwk.kinds y->
 Zbfc b0 j1 out7 x57 x64 next6 y.1 y.2.1 y.2.2.1 y.2.2.2.1 next K)
def Zbvh (b0:List UInt8) (j1:Int) (out7:List (Bool×List UInt32)) (i8:Int) (next6:(List (Bool×List UInt32)×Int×Unit)->Prop) (K:List (Bool×List UInt32)->Int->Prop):Prop:=
 IfB (decide ((i8:Int)<(b0.length:Int)))
 (IfB (decide (((IntKind.wrap .i64 (i8+1)):Int)≥(b0.length:Int)))
 (Zjb b0 j1 out7 i8 next6 true K)
 ((0:Int) <= i8∧AtN b0 i8.toNat fun x28=>
 WfT Zbz x28->
 IfB (decide (((x28.toNat:Int):Int)<1))
 (Zjb b0 j1 out7 i8 next6 true K)
 ((0:Int) <= i8∧AtN b0 i8.toNat fun x35=>
 WfT Zbz x35->
 IfB (decide (((x35.toNat:Int):Int)>2))
 (Zjb b0 j1 out7 i8 next6 true K)
 ((0:Int) <= (IntKind.wrap .i64 (i8+1))∧AtN b0 (IntKind.wrap .i64 (i8+1)).toNat fun x43=>
 WfT Zbz x43->
 Zjb b0 j1 out7 i8 next6 (decide (((IntKind.wrap .i64 ((IntKind.wrap .i64 (x43.toNat:Int))*j1)):Int)>(IntKind.wrap .i64 ((IntKind.wrap .i64 ((b0.length:Int) - i8)) - 2)))) K))))
 ((WfPs Zsn (out7,())->
 Zyt out7 (fun x103=>
 WfPs Zsc (x103,())->
 IfB ((x103:Int) !=0)
 (K ([]:List (Bool×List UInt32)) 7)
 (K out7 0))))
def Zxf (b0:List UInt8) (j1:Int) (K:List (Bool×List UInt32)->Int->Prop):Prop:=
 Zk (List (Bool×List UInt32)×Int×Unit) (([]:List (Bool×List UInt32)),(0:Int),()) fun y next=>
 WfY Zbkc.kinds y->
 Zbvh b0 j1 y.1 y.2.1 next K
def Zbhm (b0:List UInt8) (four1:Bool) (K:List (Bool×List UInt32)->Int->Prop):Prop:=
 IfB four1
 (Zxf b0 4 K)
 (Zxf b0 2 K)
noncomputable def Zbjs:Tab:=⟨[(Znu,Zbjh)],[]⟩
abbrev Zbsj (x:PkTs Zbhs) (K:PkTs Zbed->Prop):Prop:=Zbhm x.1 x.2.1 (fun r0 r1=>K (r0,r1,()))
theorem Zcdu:Zbsj=fun x K=>Zbo Tryz.prog Zbjs Zbxp (Zg Tryz.f55) (parS Zbhs x) (PRet Tryz.prog Tryz.f55.results.toList fun a st=>outP Zbed st a K):=by kernel_rfl
theorem Zcgj:FnQ Tryz.prog Zsb Zbhs Zbed Zbsj:=(Zt Zcap (tab:=Zbjs) ⟨⟨Zcri,trivial⟩,trivial⟩ rfl).of_eq Zcdu
def Zbuu:PLoop:=⟨[(3,PK.int .i64),(4,PK.int .i64)],[0],[]⟩
def Zbrh:PPlan:=⟨[],[(3,Zbuu)],[],[],[],[]⟩
theorem Zcnw:Known Tryz.prog Zox Tryz.f57 Zbrh.plan (Zg Tryz.f57):=by refine ⟨Tryz.func57,?_,?_,?_,?_,?_⟩<;>kernel_rfl
abbrev Zbdu:List Pk:=[Pk.lst [Kd.bool,Kd.lst [Kd.int .u32]]]
abbrev Zbax:List Pk:=[Pk.int .i64]
def Zbgh (p0:List (Bool×List UInt32)) (i4:Int) (next3:(Int×Int×Unit)->Prop) (j1:Int) (K:Int->Prop):Prop:=
 next3 (j1,(IntKind.wrap .i64 (i4+1)),())
def Zbau (p0:List (Bool×List UInt32)) (n3:Int) (i4:Int) (next3:(Int×Int×Unit)->Prop) (K:Int->Prop):Prop:=
 IfB (decide ((i4:Int)<(p0.length:Int)))
 ((0:Int) <= i4∧AtN p0 i4.toNat fun x13=>
 WfT Zcw x13->
 IfB x13.1
 (Zbgh p0 i4 next3 (IntKind.wrap .i64 (n3+1)) K)
 ((0:Int) <= i4∧AtN p0 i4.toNat fun x21=>
 WfT Zcw x21->
 Zbgh p0 i4 next3 (IntKind.wrap .i64 (n3+(x21.2.length:Int))) K))
 (K n3)
def Zbgs (p0:List (Bool×List UInt32)) (K:Int->Prop):Prop:=
 Zk (Int×Int×Unit) ((0:Int),(0:Int),()) fun y next=>
 WfY Zbuu.kinds y->
 Zbau p0 y.1 y.2.1 next K
noncomputable def Zbxm:Tab:=⟨[],[]⟩
abbrev Zbrj (x:PkTs Zbdu) (K:PkTs Zbax->Prop):Prop:=Zbgs x.1 (fun r0=>K (r0,()))
theorem Zcfp:Zbrj=fun x K=>Zbo Tryz.prog Zbxm Zbrh (Zg Tryz.f57) (parS Zbdu x) (PRet Tryz.prog Tryz.f57.results.toList fun a st=>outP Zbax st a K):=by kernel_rfl
theorem Zccm:FnQ Tryz.prog Zox Zbdu Zbax Zbrj:=(Zt Zcnw (tab:=Zbxm) ⟨trivial,trivial⟩ rfl).of_eq Zcfp
def Zbwq:PPlan:=⟨[],[],[],[],[],[]⟩
theorem Zcun:Known Tryz.prog Zfe Tryz.f56 Zbwq.plan (Zg Tryz.f56):=by refine ⟨Tryz.func56,?_,?_,?_,?_,?_⟩<;>kernel_rfl
abbrev Zbbf:List Pk:=[Pk.lst [Kd.int .u8]]
abbrev Zbfe:List Pk:=[Pk.int .u32]
def Zbea (b0:List UInt8) (K:Int->Prop):Prop:=
 (0:Int) <= 0∧AtN b0 0 fun x4=>
 WfT Zbz x4->
 (0:Int) <= 1∧AtN b0 1 fun x9=>
 WfT Zbz x9->
 (0:Int) <= 2∧AtN b0 2 fun x15=>
 WfT Zbz x15->
 (0:Int) <= 3∧AtN b0 3 fun x21=>
 WfT Zbz x21->
 K (IntKind.wrap .u32 ((IntKind.wrap .u32 ((IntKind.wrap .u32 ((IntKind.wrap .u32 (16777216*(IntKind.wrap .u32 (x4.toNat:Int))))+(IntKind.wrap .u32 (65536*(IntKind.wrap .u32 (x9.toNat:Int))))))+(IntKind.wrap .u32 (256*(IntKind.wrap .u32 (x15.toNat:Int))))))+(IntKind.wrap .u32 (x21.toNat:Int))))
noncomputable def Zbwm:Tab:=⟨[],[]⟩
abbrev Zbul (x:PkTs Zbbf) (K:PkTs Zbfe->Prop):Prop:=Zbea x.1 (fun r0=>K (r0,()))
theorem Zcil:Zbul=fun x K=>Zbo Tryz.prog Zbwm Zbwq (Zg Tryz.f56) (parS Zbbf x) (PRet Tryz.prog Tryz.f56.results.toList fun a st=>outP Zbfe st a K):=by kernel_rfl
theorem Zcnd:FnQ Tryz.prog Zfe Zbbf Zbfe Zbul:=(Zt Zcun (tab:=Zbwm) ⟨trivial,trivial⟩ rfl).of_eq Zcil
def Zbtl:PPlan:=⟨[],[],[],[],[],[]⟩
theorem Zcnx:Known Tryz.prog Ztn Tryz.f30 Zbtl.plan (Zg Tryz.f30):=by refine ⟨Tryz.func30,?_,?_,?_,?_,?_⟩<;>kernel_rfl
abbrev Zbcl:List Pk:=[Pk.int .i64]
abbrev Zbcw:List Pk:=[Pk.bool]
def Zbeg (kind0:Int) (K:Bool->Prop):Prop:=
 IfB (decide ((kind0:Int)≥1))
 (IfB (decide ((kind0:Int) <= 8))
 (K true)
 (IfB ((kind0:Int)==17)
 (K true)
 (K ((kind0:Int)==18))))
 (IfB ((kind0:Int)==17)
 (K true)
 (K ((kind0:Int)==18)))
noncomputable def Zbmq:Tab:=⟨[],[]⟩
abbrev Zbpg (x:PkTs Zbcl) (K:PkTs Zbcw->Prop):Prop:=Zbeg x.1 (fun r0=>K (r0,()))
theorem Zcah:Zbpg=fun x K=>Zbo Tryz.prog Zbmq Zbtl (Zg Tryz.f30) (parS Zbcl x) (PRet Tryz.prog Tryz.f30.results.toList fun a st=>outP Zbcw st a K):=by kernel_rfl
theorem Zcmp:FnQ Tryz.prog Ztn Zbcl Zbcw Zbpg:=(Zt Zcnx (tab:=Zbmq) ⟨trivial,trivial⟩ rfl).of_eq Zcah
def Zbuw:PPlan:=⟨[],[],[],[],[],[]⟩
theorem Zbyp:Known Tryz.prog Ztp Tryz.f32 Zbuw.plan (Zg Tryz.f32):=by refine ⟨Tryz.func32,?_,?_,?_,?_,?_⟩<;>kernel_rfl
abbrev Zbds:List Pk:=[Pk.int .i64]
abbrev Zbdy:List Pk:=[Pk.int .u8]
def Zxd (j0:Bool) (K:Int->Prop):Prop:=
 IfB j0
 (K 192)
 (K 64)
def Zbqa (kind0:Int) (K:Int->Prop):Prop:=
 IfB ((kind0:Int)==4)
 (K 128)
 (IfB ((kind0:Int)==7)
 (Zxd ((kind0:Int)==7) K)
 (IfB ((kind0:Int)==8)
 (Zxd ((kind0:Int)==8) K)
 (IfB ((kind0:Int)==17)
 (Zxd ((kind0:Int)==17) K)
 (Zxd ((kind0:Int)==18) K))))
noncomputable def Zbik:Tab:=⟨[],[]⟩
abbrev Zbue (x:PkTs Zbds) (K:PkTs Zbdy->Prop):Prop:=Zbqa x.1 (fun r0=>K (r0,()))
theorem Zcqx:Zbue=fun x K=>Zbo Tryz.prog Zbik Zbuw (Zg Tryz.f32) (parS Zbds x) (PRet Tryz.prog Tryz.f32.results.toList fun a st=>outP Zbdy st a K):=by kernel_rfl
theorem Zcox:FnQ Tryz.prog Ztp Zbds Zbdy Zbue:=(Zt Zbyp (tab:=Zbik) ⟨trivial,trivial⟩ rfl).of_eq Zcqx
def Zbtq:PLoop:=⟨[(3,PK.int .u64),(4,PK.int .i64)],[],[]⟩
def Zblh:PPlan:=⟨[],[(3,Zbtq)],[],[],[],[]⟩
theorem Zbyh:Known Tryz.prog Zuu Tryz.f36 Zblh.plan (Zg Tryz.f36):=by refine ⟨Tryz.func36,?_,?_,?_,?_,?_⟩<;>kernel_rfl
abbrev Zmi:List Pk:=[Pk.int .i64]
abbrev Zna:List Pk:=[Pk.int .u64]
def Zbeo (s3:Int) (i4:Int) (next3:(Int×Int×Unit)->Prop) (K:Int->Prop):Prop:=
 IfB (decide ((i4:Int)<32))
 (next3 ((IntKind.wrap .u64 (2*s3)),(IntKind.wrap .i64 (i4+1)),()))
 (K s3)
def Zoo (n0:Int) (K:Int->Prop):Prop:=
 Zk (Int×Int×Unit) ((1:Int),(max n0 0),()) fun y next=>
 WfY Zbtq.kinds y->
 Zbeo y.1 y.2.1 next K
noncomputable def Zbiw:Tab:=⟨[],[]⟩
abbrev Zbbx (x:PkTs Zmi) (K:PkTs Zna->Prop):Prop:=Zoo x.1 (fun r0=>K (r0,()))
theorem Zcpg:Zbbx=fun x K=>Zbo Tryz.prog Zbiw Zblh (Zg Tryz.f36) (parS Zmi x) (PRet Tryz.prog Tryz.f36.results.toList fun a st=>outP Zna st a K):=by kernel_rfl
theorem Zcjh:FnQ Tryz.prog Zuu Zmi Zna Zbbx:=(Zt Zbyh (tab:=Zbiw) ⟨trivial,trivial⟩ rfl).of_eq Zcpg
noncomputable def Zbsr:Ct:=ctRd Zmi Zna Zbbx
theorem Zbyx:Zw Tryz.prog Zuu Zbsr:=Zde Zcjh
def Zbpt:PLoop:=⟨[(4,PK.row Zqp [Kd.int .u32,Kd.int .i64]),(5,PK.int .i64)],[0],[]⟩
def Zbmw:PLoop:=⟨[(8,PK.int .u64),(9,PK.int .i64)],[0,4,5,6,7],[]⟩
def Zbwo:PPlan:=⟨[(15,[0,1,2,5,9,3,4,6,7,8,10,11,12,13],[])],[(3,Zbpt),(10,Zbmw)],[],[],[],[]⟩
theorem Zcdy:Known Tryz.prog Zuk Tryz.f17 Zbwo.plan (Zg Tryz.f17):=by refine ⟨Tryz.func17,?_,?_,?_,?_,?_⟩<;>kernel_rfl
abbrev Znv:List Pk:=[Pk.lst [Kd.int .u8]]
abbrev Zmy:List Pk:=[Pk.own Zqp [Kd.int .u32,Kd.int .i64],Pk.bool]
def Zwq (b0:List UInt8) (out4:List (UInt32×Int)) (i5:Int) (x17:UInt8) (j9:Int) (next3:(List (UInt32×Int)×Int×Unit)->Prop) (next10:(Int×Int×Unit)->Prop) (j5_1:Int) (K:List (UInt32×Int)->Bool->Prop):Prop:=
 next10 (j5_1,(IntKind.wrap .i64 (j9+1)),())
def Zbbk (b0:List UInt8) (out4:List (UInt32×Int)) (i5:Int) (x17:UInt8) (next3:(List (UInt32×Int)×Int×Unit)->Prop) (a8:Int) (j9:Int) (next10:(Int×Int×Unit)->Prop) (K:List (UInt32×Int)->Bool->Prop):Prop:=
 IfB (decide ((j9:Int)<4))
 (IfB (decide ((j9:Int)<(IntKind.wrap .i64 (Int.tdiv (IntKind.wrap .i64 ((IntKind.wrap .i64 (x17.toNat:Int))+7)) 8))))
 ((0:Int) <= (IntKind.wrap .i64 ((IntKind.wrap .i64 (i5+1))+j9))∧AtN b0 (IntKind.wrap .i64 ((IntKind.wrap .i64 (i5+1))+j9)).toNat fun x49=>
 WfT Zbz x49->
 Zwq b0 out4 i5 x17 j9 next3 next10 (IntKind.wrap .u64 ((IntKind.wrap .u64 (256*a8))+(IntKind.wrap .u64 (x49.toNat:Int)))) K)
 (Zwq b0 out4 i5 x17 j9 next3 next10 (IntKind.wrap .u64 (256*a8)) K))
 ((WfPs Zmi ((IntKind.wrap .i64 (x17.toNat:Int)),())->
 Zoo (IntKind.wrap .i64 (x17.toNat:Int)) (fun x56=>
 WfPs Zna (x56,())->
 (x56:Int)≠0∧
 (WfPs Zmi ((IntKind.wrap .i64 (x17.toNat:Int)),())->
 Zoo (IntKind.wrap .i64 (x17.toNat:Int)) (fun x59=>
 WfPs Zna (x59,())->
 out4.length+([((ofI .u32 (IntKind.wrap .u32 (IntKind.wrap .u64 ((IntKind.wrap .u64 (Int.tdiv a8 x56))*x59)))),(IntKind.wrap .i64 (x17.toNat:Int)))]:List (UInt32×Int)).length <= 8796093022112∧
 next3 ((out4++([((ofI .u32 (IntKind.wrap .u32 (IntKind.wrap .u64 ((IntKind.wrap .u64 (Int.tdiv a8 x56))*x59)))),(IntKind.wrap .i64 (x17.toNat:Int)))]:List (UInt32×Int))),(IntKind.wrap .i64 (i5+(IntKind.wrap .i64 (1+(IntKind.wrap .i64 (Int.tdiv (IntKind.wrap .i64 ((IntKind.wrap .i64 (x17.toNat:Int))+7)) 8)))))),()))))))
def Zqj (b0:List UInt8) (out4:List (UInt32×Int)) (i5:Int) (x17:UInt8) (next3:(List (UInt32×Int)×Int×Unit)->Prop) (j5:Bool) (K:List (UInt32×Int)->Bool->Prop):Prop:=
 IfB j5
 (K ([]:List (UInt32×Int)) false)
 (Zk (Int×Int×Unit) ((0:Int),(0:Int),()) fun y next=>
 WfY Zbmw.kinds y->
 Zbbk b0 out4 i5 x17 next3 y.1 y.2.1 next K)
def Zbow (b0:List UInt8) (out4:List (UInt32×Int)) (i5:Int) (next3:(List (UInt32×Int)×Int×Unit)->Prop) (K:List (UInt32×Int)->Bool->Prop):Prop:=
 IfB (decide ((i5:Int)<(b0.length:Int)))
 ((0:Int) <= i5∧AtN b0 i5.toNat fun x17=>
 WfT Zbz x17->
 (8:Int)≠0∧
 IfB (decide (((IntKind.wrap .i64 (x17.toNat:Int)):Int)>32))
 (Zqj b0 out4 i5 x17 next3 true K)
 (Zqj b0 out4 i5 x17 next3 (decide (((IntKind.wrap .i64 (Int.tdiv (IntKind.wrap .i64 ((IntKind.wrap .i64 (x17.toNat:Int))+7)) 8)):Int)>(IntKind.wrap .i64 ((IntKind.wrap .i64 ((b0.length:Int) - i5)) - 1)))) K))
 (K out4 true)
def Zly (b0:List UInt8) (K:List (UInt32×Int)->Bool->Prop):Prop:=
 Zk (List (UInt32×Int)×Int×Unit) (([]:List (UInt32×Int)),(0:Int),()) fun y next=>
 WfY Zbpt.kinds y->
 Zbow b0 y.1 y.2.1 next K
noncomputable def Zbtr:Tab:=⟨[(Zuu,Zbsr)],[]⟩
abbrev Zbbz (x:PkTs Znv) (K:PkTs Zmy->Prop):Prop:=Zly x.1 (fun r0 r1=>K (r0,r1,()))
theorem Zcmj:Zbbz=fun x K=>Zbo Tryz.prog Zbtr Zbwo (Zg Tryz.f17) (parS Znv x) (PRet Tryz.prog Tryz.f17.results.toList fun a st=>outP Zmy st a K):=by kernel_rfl
theorem Zbzz:FnQ Tryz.prog Zuk Znv Zmy Zbbz:=(Zt Zcdy (tab:=Zbtr) ⟨⟨Zbyx,trivial⟩,trivial⟩ rfl).of_eq Zcmj
noncomputable def Zbpd:Ct:=Zcy Znv Zmy Zbbz
theorem Zcbh:Zw Tryz.prog Zuk Zbpd:=Zdj Zbzz
end Go.Proofs.YthdffaojeghaeaaGreatDoor
end
section
set_option maxRecDepth 100000
namespace Go.Proofs.YthdffaojeghaeaaGreatDoor
open Go.Sh
theorem Zbxh (p:List Seg) (K:Int->Prop) (hl:p.length <= 9223372036854775807) (hc:cnt p <= 9223372036854775807) (h:K (Ziq (Zbs p))):Zyt p K:=by
  unfold Zyt;refine Zk.over p (fun pre=>((cnt pre:Int),(pre.length:Int),())) (fun pre=>pre.all Zel=true∧cnt pre <= 64) rfl ⟨rfl,by simp [cnt]⟩ (fun pre s post hp hn hP next hx=>?_) (fun hP next _=>?_)
  . intro _;dsimp only [Zbbe];have hcs:cnt p=cnt pre+s.2.length+cnt post:=by rw [hp,Zcul]
    refine ifT (decide_eq_true (by omega)) ⟨by omega,AtN.of (Zcf hp) fun _=>?_⟩
    have bad:Zel s=false->K 2:=fun hb=>of_eq h (by rw [Zbzj hp hb];rfl)
    refine IfB.intro (fun h1=>?_) (fun h1=>⟨by omega,AtN.of (Zcf hp) fun _=>IfB.intro (fun h2=>?_) (fun h2=>?_)⟩)
    . have h1:s.2.length=0:=by simpa using h1
      exact bad (by simp [Zel,h1])
    . have h2:255<s.2.length:=by simp at h2;omega
      exact bad (by
          have: ¬s.2.length <= 255:=by omega
          simp [Zel,this])
    . have h1:s.2.length≠0:=by simpa using h1
      have h2:s.2.length <= 255:=by simp at h2;omega
      refine Zk.over s.2 (fun l=>((l.length:Int),())) (fun l=>l.all (fun x=>x !=0)=true) rfl rfl (fun l x r hs hm hL next' hy=>?_) (fun hL next' _=>?_)
      . intro _;dsimp only [Zbha];refine ⟨by omega,AtN.of (Zcf hp) fun _=>ifT (decide_eq_true (by omega)) ⟨by omega,AtN.of (Zcf hp) fun _=>⟨by omega,AtN.of (Zcf hs) fun _=>IfB.intro (fun h3=>?_) (fun h3=>of_eq (hy ?_) ?_)⟩⟩⟩
        . refine bad ?_;have:(s.2.all fun x=>x !=0)=false:=by rw [List.all_eq_false];exact ⟨x,by simp [hs],by simp [Zbgq,h3]⟩
          simp [Zel,this]
        rw [List.all_append,hL];simp [Zbgq,h3]
        . rw [Ze (by omega) (by omega)];simp
      . dsimp only [Zbha];refine ⟨by omega,AtN.of (Zcf hp) fun _=>ifF (decide_eq_false (by omega)) ⟨by omega,AtN.of (Zcf hp) fun _=>?_⟩⟩
        rw [Ze (by omega) (by omega)]
        refine IfB.intro (fun h3=>of_eq h ?_) (fun h3=>of_eq (hx ⟨?_,?_⟩) ?_)
        . have h3:64<cnt pre+s.2.length:=by simp at h3;omega
          rw [Zcso (by omega)];rfl
        . have:Zel s=true:=by simp [Zel,h2];exact ⟨by omega,by simpa using hL⟩
          rw [List.all_append,hP.1];simp [this]
        . have h3:cnt pre+s.2.length <= 64:=by simp at h3;omega
          rw [Zqg];omega
        . rw [Ze (by omega) (by omega),Zqg];simp
  . dsimp only [Zbbe];refine ifF (decide_eq_false (by omega)) (of_eq h ?_)
    simp [Zbs,hP.1,hP.2,Ziq]
theorem Zbyq (k:Int) (K:Bool->Prop) (h:K (Zda k)):Zbeg k K:=by
  have e:Zda k=((decide (k≥1)&&decide (k <= 8))||k==17||k==18):=by
    have: ∀a b:Bool,(a=true↔b=true)->a=b:=by decide
    apply this;simp [Zda];omega
  rw [e] at h;unfold Zbeg;refine IfB.intro (fun h1=>IfB.intro (fun h2=>of_eq h ?_) (fun h2=>IfB.intro (fun h3=>of_eq h ?_) (fun h3=>of_eq h ?_))) (fun h1=>IfB.intro (fun h3=>of_eq h ?_) (fun h3=>of_eq h ?_));all_goals simp_all
  all_goals omega
theorem Zbdx (size:Nat): ∀(k:Nat) (s:List UInt8),decN size (k+1) s=decN size k s++[UInt32.ofNat (numB ((s.drop (k*size)).take size))]
  | 0,s=>by simp [decN]
  | k+1,s=>by
    have e:decN size (k+2) s=UInt32.ofNat (numB (s.take size))::decN size (k+1) (s.drop size):=rfl;rw [e,Zbdx size k (s.drop size),List.drop_drop];have e2:size+k*size=(k+1)*size:=by rw [Nat.succ_mul];omega
    rw [e2];rfl
theorem Zcii {b:List UInt8} {i:Nat} (h:i+1<b.length): ∃x y r,b.drop i=x::y::r∧b[i]? =some x∧b[i+1]? =some y∧r=b.drop (i+2):=by
  have h1:b.drop i=b[i]::b.drop (i+1):=List.drop_eq_getElem_cons (by omega)
  have h2:b.drop (i+1)=b[i+1]::b.drop (i+2):=List.drop_eq_getElem_cons h;exact ⟨b[i],b[i+1],b.drop (i+2),by rw [h1,h2],List.getElem?_eq_getElem (by omega),List.getElem?_eq_getElem h,rfl⟩
theorem Zbuz (b:List UInt8) (size:Nat) (K:List Seg->Int->Prop) (hs:size=4∨size=2) (hl:b.length <= 1000000000) (h:rpT size [] b K):Zxf b size K:=by
  unfold Zxf;refine ⟨fun k x=>∃(i:Nat) (p:List Seg),x=(p,(i:Int),())∧k=b.length - i∧i <= b.length∧p.length+cnt p+(b.length - i) <= b.length∧rpT size p (b.drop i) K,b.length,⟨0,[],rfl,rfl,Nat.zero_le _,by simp [cnt],h⟩,?_⟩
  rintro k x ⟨i,p,rfl,rfl,hi,hlen,hr⟩;intro _;dsimp only [Zbvh];have hsz:size <= 4∧1 <= size:=by omega
  by_cases h0:i<b.length
  case neg=>
    refine ifF (decide_eq_false (by omega)) fun _=>Zbxh p _ (by omega) (by omega) fun _=>?_
    have hnil:b.drop i= []:=List.drop_eq_nil_of_le (by omega)
    rw [hnil] at hr;have h1:=Zbkd hr;cases hp:Zbs p with
    | true=>rw [hp,if_pos rfl] at h1;exact ifF rfl h1
    | false=>rw [hp,if_neg (by decide)] at h1;exact ifT rfl h1
  refine ifT (decide_eq_true (by omega)) ?_
  have w1:IntKind.wrap .i64 ((i:Int)+1)=((i+1:Nat):Int):=by rw [Ze (by omega) (by omega)];omega
  simp only [w1,Int.toNat_natCast];by_cases h1:i+1<b.length
  case neg=>
    refine ifT (decide_eq_true (by omega)) ?_
    unfold Zjb;have e:b.drop i= [b[i]]:=by rw [List.drop_eq_getElem_cons h0,List.drop_eq_nil_of_le (by omega)]
    rw [e] at hr;exact ifT rfl (Zbmj hr)
  obtain ⟨x,y,r,hxy,hbx,hby,hrr⟩:=Zcii h1;rw [hxy] at hr;have hx:=UInt8.toNat_lt x;have hy:=UInt8.toNat_lt y;have hmul:y.toNat*size <= 255*4:=Nat.mul_le_mul (by omega) hsz.1
  have hrl:r.length=b.length - i - 2:=by rw [hrr,List.length_drop];omega
  have bad: ¬((x=1∨x=2)∧y.toNat*size <= r.length)->Zjb b size p (i:Int) (fun x'=>∃k',k'<b.length - i∧∃(i:Nat) (p:List Seg),x'=(p,(i:Int),())∧k'=b.length - i∧i <= b.length∧p.length+cnt p+(b.length - i) <= b.length∧rpT size p (b.drop i) K) true K:=fun hc=>by unfold Zjb;exact ifT rfl (Zbnu hc hr)
  refine ifF (decide_eq_false (by omega)) ⟨by omega,AtN.of hbx fun _=>IfB.intro (fun h2=>?_) (fun h2=>?_)⟩
  . have h2:x.toNat<1:=by have:=of_decide_eq_true h2;omega
    exact bad fun h=>by rcases h.1 with e | e<;>subst e<;>revert h2<;>decide
  have h2:1 <= x.toNat:=by have:=of_decide_eq_false h2;omega
  refine ⟨by omega,AtN.of hbx fun _=>IfB.intro (fun h3=>?_) (fun h3=>?_)⟩
  . have h3:2<x.toNat:=by have:=of_decide_eq_true h3;omega
    exact bad fun h=>by rcases h.1 with e | e<;>subst e<;>revert h3<;>decide
  have h3:x.toNat <= 2:=by have:=of_decide_eq_false h3;omega
  have hk:x=1∨x=2:=by
    rcases Nat.lt_or_ge x.toNat 2 with h4 | h4;exact .inl (UInt8.toNat_inj.1 (by show x.toNat=1;omega))
    exact .inr (UInt8.toNat_inj.1 (by show x.toNat=2;omega))
  have wm:IntKind.wrap .i64 (IntKind.wrap .i64 (y.toNat:Int)*(size:Int))=((y.toNat*size:Nat):Int):=by rw [Ze (n:=(y.toNat:Int)) (by omega) (by omega),← Int.natCast_mul,Ze (by omega) (by omega)]
  have wl:IntKind.wrap .i64 (IntKind.wrap .i64 ((b.length:Int) - (i:Int)) - 2)=(r.length:Int):=by
    rw [Ze (n:=(b.length:Int) - (i:Int)) (by omega) (by omega),Ze (by omega) (by omega)];omega
  refine ⟨by omega,AtN.of hby fun _=>?_⟩
  rw [wm,wl];by_cases hc:y.toNat*size <= r.length
  case neg=>
    rw [decide_eq_true (by omega)]
    exact bad fun h=>hc h.2
  rw [decide_eq_false (by omega)]
  unfold Zjb;simp only [w1,Int.toNat_natCast];refine ifF rfl ⟨by omega,AtN.of hbx fun _=>⟨by omega,AtN.of hby fun _=>?_⟩⟩
  have hx1:(((x.toNat:Int):Int)==1)=(x==1):=by by_cases e:x=1;subst e;rfl;rw [beq_eq_false_iff_ne.2 e,beq_eq_false_iff_ne.2 fun h=>e (UInt8.toNat_inj.1 (by show x.toNat=1;omega))]
  have w2:IntKind.wrap .i64 ((i:Int)+2)=((i+2+0*size:Nat):Int):=by rw [Ze (by omega) (by omega)];omega
  have wy:IntKind.wrap .i64 (y.toNat:Int)=(y.toNat:Int):=Ze (by omega) (by omega)
  rw [hx1,w2];refine Zk.up y.toNat (fun k=>(((i+2+k*size:Nat):Int),(k:Int),(x==1),decN size k r,())) (fun _=>True) rfl trivial (fun k hk2 _ next hn=>?_) (fun _ next=>?_)
  . intro _;dsimp only [Zbfc];rw [wy];have hks:k*size+size <= y.toNat*size:=by rw [← Nat.succ_mul];exact Nat.mul_le_mul_right _ hk2
    refine ifT (decide_eq_true (by omega)) ?_
    refine Zk.up size (fun j=>((numB ((r.drop (k*size)).take j):Int),(j:Int),(x==1),decN size k r,())) (fun _=>True) rfl trivial (fun j hj _ next2 hn2=>?_) (fun _ next2=>?_)
    . intro _;dsimp only [Zbdc];have w3:IntKind.wrap .i64 (((i+2+k*size:Nat):Int)+(j:Int))=((i+2+k*size+j:Nat):Int):=by rw [Ze (by omega) (by omega)];omega
      rw [w3,Int.toNat_natCast];obtain ⟨v,hv⟩: ∃v,b[i+2+k*size+j]? =some v:=⟨_,List.getElem?_eq_getElem (by omega)⟩
      have hv2:(r.drop (k*size))[j]? =some v:=by
        rw [List.getElem?_drop,hrr,List.getElem?_drop,show i+2+(k*size+j)=i+2+k*size+j by omega];exact hv
      have hvl:=UInt8.toNat_lt v;have hnb:=Zjc ((r.drop (k*size)).take j);have hnb2:numB ((r.drop (k*size)).take j)<16777216:=by
        have h5:((r.drop (k*size)).take j).length <= 3:=by simp only [List.length_take];omega
        have:256^((r.drop (k*size)).take j).length <= 256^3:=Nat.pow_le_pow_right (by decide) h5
        omega
      refine ifT (decide_eq_true (by omega)) ⟨by omega,AtN.of hv fun _=>of_eq (hn2 trivial) ?_⟩
      have e6:(r.drop (k*size)).take (j+1)=(r.drop (k*size)).take j++[v]:=by rw [List.take_add_one,hv2];rfl
      rw [e6,Zyz,show 256*(numB ((r.drop (k*size)).take j):Int)=((numB ((r.drop (k*size)).take j)*256:Nat):Int) by omega,wu32 (by omega),wu32 (by omega),← Int.natCast_add,wu32 (by omega),Ze (by omega) (by omega)]
      rfl
    . intro _;dsimp only [Zbdc];have hdl:=Zkp size k r;refine ifF (decide_eq_false (by omega)) ⟨by simp only [List.length_cons,List.length_nil];omega,of_eq (hn trivial) ?_⟩
      have e:(ofI .u32 (numB ((r.drop (k*size)).take size):Int):UInt32)=UInt32.ofNat (numB ((r.drop (k*size)).take size)):=by simp [ofI]
      rw [e,Zbdx,Ze (n:=((i+2+k*size:Nat):Int)+(size:Int)) (by omega) (by omega),Ze (n:=(k:Int)+1) (by omega) (by omega),Nat.succ_mul]
      have e7:(((i+2+(k*size+size):Nat)):Int)=((i+2+k*size:Nat):Int)+(size:Int):=by omega
      rw [e7];rfl
  . intro _;dsimp only [Zbfc];rw [wy];have hdl:=Zkp size y.toNat r;have hny:y.toNat*1 <= y.toNat*size:=Nat.mul_le_mul_left _ hsz.2;refine ifF (decide_eq_false (by omega)) ⟨by simp only [List.length_cons,List.length_nil];omega,b.length - (i+2+y.toNat*size),by omega,i+2+y.toNat*size,_,rfl,rfl,by omega,?_,?_⟩
    rw [Zbqs,List.length_append,hdl];simp only [List.length_cons,List.length_nil];omega;have:=Zbwd ⟨hk,hc⟩ hr;rw [hrr,List.drop_drop] at this;rw [hrr];exact this
theorem Zcfi (b:List UInt8) (four:Bool) (K:List Seg->Int->Prop) (hl:b.length <= 1000000000) (h:rpK four b K):Zbhm b four K:=by
  unfold Zbhm;have:=Zbvo h;cases four with
  | true=>exact ifT rfl (Zbuz b 4 K (.inl rfl) hl this)
  | false=>exact ifF rfl (Zbuz b 2 K (.inr rfl) hl this)
theorem Zcqe (x y z w:UInt8) (r:List UInt8) (K:Int->Prop) (h:K (numB [x,y,z,w])):Zbea (x::y::z::w::r) K:=by
  have hx:=UInt8.toNat_lt x;have hy:=UInt8.toNat_lt y;have hz:=UInt8.toNat_lt z;have hw:=UInt8.toNat_lt w;unfold Zbea;refine ⟨by decide,AtN.of rfl fun _=>⟨by decide,AtN.of rfl fun _=>⟨by decide,AtN.of rfl fun _=>⟨by decide,AtN.of rfl fun _=>of_eq h ?_⟩⟩⟩⟩
  rw [wu32 (a:=x.toNat) (by omega),wu32 (a:=y.toNat) (by omega),wu32 (a:=z.toNat) (by omega),wu32 (a:=w.toNat) (by omega)]
  simp only [Zbbh,numB,List.foldl_cons,List.foldl_nil];omega
theorem Zbys (k:Int) (K:Int->Prop) (hk:Zda k=true) (h:K (Zdc k)):Zbqa k K:=by unfold Zda at hk;simp only [Bool.or_eq_true,beq_iff_eq] at hk;rcases hk with ((((((((h1 | h1) | h1) | h1) | h1) | h1) | h1) | h1) | h1) | h1<;>subst h1<;>exact h
end Go.Proofs.YthdffaojeghaeaaGreatDoor
end
section
set_option maxRecDepth 100000
namespace Go.Proofs.YthdffaojeghaeaaGreatDoor
open Go.Sh
def Zbr (s:RdS) (four:Bool) (vp:Value) (ca:Option Addr) (cc:Nat) (oa:Option Addr) (oc:Nat) (seen:List Bool) (v4:Value) (vm:Bool×UInt32×UInt32) (h4:Bool):List Value:=
  attV s.a vp ca cc oa oc++(.int .i64 (s.worst:Int)::(seen.map Value.bool++[.bool four,.bool h4,v4,.bool vm.1,.int .u32 (vm.2.1.toNat:Int),.int .u32 (vm.2.2.toNat:Int)]))
def M5 (m4:Option (UInt32×UInt32)) (vm:Bool×UInt32×UInt32):Prop:=match m4 with
  | some m=>vm=(true,m.1,m.2)
  | none=>vm.1=false
structure RyX (Z0:Nat->Prop) (H0 H:Heap) (b:Nat) (four:Bool) (Zn:Nat->Prop) (vp:Value) (ca:Option Addr) (cc:Nat) (oa:Option Addr) (oc:Nat) (seen:List Bool) (v4:Value) (vm:Bool×UInt32×UInt32) (h4:Bool) (s:RdS):Prop where
  at_:AtI Z0 H0 H b Zn s.a.path vp s.a.comms ca cc s.a.others oa oc
  blk:Blk H b Zei ⟨Zbr s four vp ca cc oa oc seen v4 vm h4⟩
  seen:Zma seen s.seen
  p4:P4 (Or2 Z0 Zn) H s.p4 v4 h4
  m4:M5 s.m4 vm
def Ry (Z0:Nat->Prop) (H0 H:Heap) (b:Nat) (four:Bool) (s:RdS):Prop:=∃Zn vp ca cc oa oc seen v4 vm h4,RyX Z0 H0 H b four Zn vp ca cc oa oc seen v4 vm h4 s
def Zcc (H H':Heap):Prop:=∀x T c,Blk H x T c->T≠Zei->T≠Zba->T≠Zbw->Blk H' x T c
theorem Zcc.refl (H:Heap):Zcc H H:=fun _ _ _ h _ _ _=>h
theorem Zcc.trans {A B C:Heap} (h:Zcc A B) (k:Zcc B C):Zcc A C:=fun x T c hb h1 h2 h3=>k x T c (h x T c hb h1 h2 h3) h1 h2 h3
theorem Zbwf {S:Nat->Prop} {H H':Heap} (k:Keep S H H') (hs: ∀x,S x->∃T c,Blk H x T c∧(T=Zei∨T=Zba∨T=Zbw)):Zcc H H':=fun x T c hb h1 h2 h3=>k.blk hb fun hx=>by
  obtain ⟨T',c',hb',hT⟩:=hs x hx;have e:T=T':=by unfold Blk at hb hb';rw [hb] at hb';cases hb';rfl
  subst e;rcases hT with h | h | h;exact h1 h;exact h2 h;exact h3 h
theorem Zhh {H H':Heap} (k:Keep Nil H H'):Zcc H H':=Zbwf k fun _ h=>h.elim
theorem Zbrl {H0 H H' H'':Heap} (k:Zcc H H') (hs:Shut H0 H' H''):Zcc H H'':=fun x T c hb h1 h2 h3=>Zhg (k x T c hb h1 h2 h3) hs
section
variable {Z0:Nat->Prop} {H0 H:Heap} {b:Nat} {four:Bool} {Zn:Nat->Prop} {vp:Value} {ca:Option Addr} {cc:Nat} {oa:Option Addr} {oc:Nat} {seen:List Bool} {v4:Value} {vm:Bool×UInt32×UInt32} {h4:Bool} {s:RdS}
theorem RyX.get (h:RyX Z0 H0 H b four Zn vp ca cc oa oc seen v4 vm h4 s) (j:Nat) {v:Value} (e:(Zbr s four vp ca cc oa oc seen v4 vm h4)[j]? =some v):H.cell ⟨b,j,none⟩=some v:=by rw [h.blk.cell];simpa using e
theorem Zbss (hl:seen.length=256) {k:Nat} (hk:k<256):(Zbr s four vp ca cc oa oc seen v4 vm h4)[14+k]? =some (.bool (seen.getD k false)):=by
  unfold Zbr;have e:(attV s.a vp ca cc oa oc).length=13:=rfl;rw [List.getElem?_append_right (by omega),show 14+k - (attV s.a vp ca cc oa oc).length=k+1 by omega,List.getElem?_cons_succ,List.getElem?_append_left (by rw [List.length_map];omega),List.getElem?_map,List.getElem?_eq_getElem (by omega)]
  simp [List.getD_eq_getElem?_getD,List.getElem?_eq_getElem (show k<seen.length by omega)]
theorem Ziv (hl:seen.length=256) (j:Nat):(Zbr s four vp ca cc oa oc seen v4 vm h4)[270+j]? = [.bool four,.bool h4,v4,.bool vm.1,.int .u32 (vm.2.1.toNat:Int),.int .u32 (vm.2.2.toNat:Int)][j]? :=by unfold Zbr;have e:(attV s.a vp ca cc oa oc).length=13:=rfl;rw [List.getElem?_append_right (by omega),show 270+j - (attV s.a vp ca cc oa oc).length=(256+j)+1 by omega,List.getElem?_cons_succ,List.getElem?_append_right (by rw [List.length_map];omega),List.length_map,show 256+j - seen.length=j by omega]
theorem Zfk (hl:seen.length=256):(Zbr s four vp ca cc oa oc seen v4 vm h4).length=276:=by simp [Zbr,attV,hl]
theorem Zpo (hl:seen.length=256) (j:Nat) (w:Value):(Zbr s four vp ca cc oa oc seen v4 vm h4).set (270+j) w=attV s.a vp ca cc oa oc++(.int .i64 (s.worst:Int)::(seen.map Value.bool++[.bool four,.bool h4,v4,.bool vm.1,.int .u32 (vm.2.1.toNat:Int),.int .u32 (vm.2.2.toNat:Int)].set j w)):=by unfold Zbr;have e:(attV s.a vp ca cc oa oc).length=13:=rfl;rw [List.set_append_right _ _ (by omega),show 270+j - (attV s.a vp ca cc oa oc).length=(256+j)+1 by omega,List.set_cons_succ,List.set_append_right _ _ (by rw [List.length_map];omega),List.length_map,show 256+j - seen.length=j by omega]
theorem Zcdt {kd:Nat} (hl:seen.length=256) (hk:kd<256):(Zbr s four vp ca cc oa oc seen v4 vm h4).set (14+kd) (.bool true)=Zbr (s.see kd) four vp ca cc oa oc (seen.set kd true) v4 vm h4:=by
  unfold Zbr;have e:(attV s.a vp ca cc oa oc).length=13:=rfl;rw [List.set_append_right _ _ (by omega),show 14+kd - (attV s.a vp ca cc oa oc).length=kd+1 by omega,List.set_cons_succ,List.set_append_left _ _ (by rw [List.length_map];omega),List.map_set]
  rfl
theorem RyX.blkC (h:RyX Z0 H0 H b four Zn vp ca cc oa oc seen v4 vm h4 s):ca≠some ⟨b,0,none⟩:=fun e=>by obtain ⟨c,hc⟩:=h.at_.liveC b e;have:=h.blk;unfold Blk at this hc;rw [this] at hc;cases hc
theorem RyX.blkO (h:RyX Z0 H0 H b four Zn vp ca cc oa oc seen v4 vm h4 s):oa≠some ⟨b,0,none⟩:=fun e=>by obtain ⟨c,hc⟩:=h.at_.liveO b e;have:=h.blk;unfold Blk at this hc;rw [this] at hc;cases hc
theorem RyX.turn (h:RyX Z0 H0 H b four Zn vp ca cc oa oc seen v4 vm h4 s) (hz0: ∀x,Z0 x->H0 x≠none) {H':Heap} (ho: ∀x,x≠b->H' x=H x) {s':RdS} {vp':Value} {seen':List Bool} {v4':Value} {vm':Bool×UInt32×UInt32} {h4':Bool}
    (hb:Blk H' b Zei ⟨Zbr s' four vp' ca cc oa oc seen' v4' vm' h4'⟩) (hc:s'.a.comms=s.a.comms) (hos:s'.a.others=s.a.others) (hp:Za (Or2 Z0 Zn) H Zbf s'.a.path vp') (hs:Zma seen' s'.seen)
    (hp4:P4 (Or2 Z0 Zn) H s'.p4 v4' h4') (hm4:M5 s'.m4 vm'):RyX Z0 H0 H' b four Zn vp' ca cc oa oc seen' v4' vm' h4' s':=by
  have k:Keep (fun x=>x=b) H H':=⟨fun x hx _=>ho x hx,fun x hx=>by
    by_cases e:x=b;subst e;exact hb.some
    . rw [ho x e];exact hx⟩
  have hst: ∀x,x=b->H0 x=none∧¬Zn x∧ca≠some ⟨x,0,none⟩∧oa≠some ⟨x,0,none⟩:=fun x e=>by subst e;exact ⟨h.at_.bn,h.at_.bz,h.blkC,h.blkO⟩
  have hz: ∀x,Or2 Z0 Zn x->Or2 Z0 Zn x∧H' x=H x:=fun x hx=>⟨hx,ho x fun e=>by
    subst e;rcases hx with hx | hx;exact hz0 x hx h.at_.bn
    . exact h.at_.bz hx⟩
  have a1:=h.at_.step hz0 k hst;have a2:=a1.setPath (Za.ext hz _ _ _ hp);refine ⟨?_,hb,hs,hp4.ext hz,hm4⟩;rw [hc,hos];exact a2
theorem RyX.kept (h:RyX Z0 H0 H b four Zn vp ca cc oa oc seen v4 vm h4 s) (hz0: ∀x,Z0 x->H0 x≠none) {H':Heap} (k:Keep Nil H H'):RyX Z0 H0 H' b four Zn vp ca cc oa oc seen v4 vm h4 s:=by have hz: ∀x,Or2 Z0 Zn x->Or2 Z0 Zn x∧H' x=H x:=fun x hx=>⟨hx,k.same x (fun h=>h.elim) (h.at_.zlive hz0 x hx)⟩;exact ⟨h.at_.kept hz0 k,k.blk h.blk fun h=>h.elim,h.seen,h.p4.ext hz,h.m4⟩
theorem RyX.more (h:RyX Z0 H0 H b four Zn vp ca cc oa oc seen v4 vm h4 s) (hz0: ∀x,Z0 x->H0 x≠none) {H':Heap} {Z1:Nat->Prop} (k:Keep Nil H H') (hf:Zbi H H' Z1):RyX Z0 H0 H' b four (Or2 Zn Z1) vp ca cc oa oc seen v4 vm h4 s:=by have h1:=h.kept hz0 k;have hz: ∀x,Or2 Z0 Zn x->Or2 Z0 (Or2 Zn Z1) x∧H' x=H' x:=fun x hx=>⟨hx.elim .inl fun h=> .inr (.inl h),rfl⟩;refine ⟨h1.at_.more k hf h.at_.keep h.blk.some (fun m hm=>?_) (fun m hm=>?_),h1.blk,h1.seen,h1.p4.ext hz,h1.m4⟩;obtain ⟨c,hc⟩:=h.at_.liveC m hm;exact hc.some;obtain ⟨c,hc⟩:=h.at_.liveO m hm;exact hc.some
theorem RyX.st (h:RyX Z0 H0 H b four Zn vp ca cc oa oc seen v4 vm h4 s) (j:Nat) {v:Value} {K:Heap->Prop} (hj:j<276) (hv:Zbl v=true) (hk: ∀H',Blk H' b Zei ⟨(Zbr s four vp ca cc oa oc seen v4 vm h4).set j v⟩->(∀x,x≠b->H' x=H x)->K H'):Zb H ⟨b,j,none⟩ v K:=by
  refine Zb.blk h.blk (by simp only [List.size_toArray];rw [Zfk h.seen.1];exact hj) hv (hk _ ?_ fun x hx=>Sh.upd_ne hx)
  have e:(⟨Zbr s four vp ca cc oa oc seen v4 vm h4⟩:Array Value).setIfInBounds j v=⟨(Zbr s four vp ca cc oa oc seen v4 vm h4).set j v⟩:=by apply Array.ext';simp
  rw [e];exact Blk.upd_eq
theorem RyX.calmB (h:RyX Z0 H0 H b four Zn vp ca cc oa oc seen v4 vm h4 s) {H':Heap} (ho: ∀x,x≠b->H' x=H x):Zcc H H':=fun x T c hb h1 _ _=>by refine hb.same (ho x fun e=>?_);subst e;have:=h.blk;unfold Blk at this hb;rw [this] at hb;cases hb;exact h1 rfl
theorem RyX.shut (h:RyX Z0 H0 H b four Zn vp ca cc oa oc seen v4 vm h4 s) (hz0: ∀x,Z0 x->H0 x≠none) {Hs H':Heap} (hs:Shut Hs H H') (hk: ∀x,H0 x≠none->Hs x≠none):RyX Z0 H0 H' b four Zn vp ca cc oa oc seen v4 vm h4 s:=by
  have hown: ∀{a:Option Addr} {n c sz:Nat} {T:TypeId} {xs:List Value},Sh.Own H0 H a n c sz T xs->Sh.Own H0 H' a n c sz T xs:=fun {a n c sz T xs} ho=>by refine ⟨ho.1,ho.2.1,?_⟩;rcases ho.2.2 with h1 | ⟨m,rest,h1,h2,h3,h4⟩;exact .inl h1;exact .inr ⟨m,rest,h1,h2,Zhg h3 hs,h4⟩
  have hsame: ∀x,H0 x≠none->H' x=H x:=fun x hx=>by rcases hs x with e | ⟨e,_,_⟩;exact e;exact absurd e (hk x hx)
  have hz: ∀x,Or2 Z0 Zn x->Or2 Z0 Zn x∧H' x=H x:=fun x hx=>⟨hx,by
    rcases hx with hx | hx;exact hsame x (hz0 x hx)
    . rcases hs x with e | ⟨_,e,_⟩;exact e
      . exact absurd e ((h.at_.new x hx).2.2 _)⟩
  refine ⟨⟨⟨fun x hx h0=>(hsame x h0).trans (h.at_.keep.same x hx h0),fun x h0=>by rw [hsame x h0];exact h.at_.keep.live x h0⟩,h.at_.new.shut hs,h.at_.bn,h.at_.bz,Za.ext hz _ _ _ h.at_.path,hown h.at_.comms,h.at_.cz,h.at_.clt,?_,h.at_.oz,h.at_.olt⟩,Zhg h.blk hs,h.seen,h.p4.ext hz,h.m4⟩
  obtain ⟨xs,h1,h2⟩:=h.at_.others;exact ⟨xs,hown h1,fun i r hr=>Zd.ext hz _ _ _ (h2 i r hr)⟩
end
theorem Zkz {Z0:Nat->Prop} {H0 H:Heap} {b:Nat} {four:Bool} {s:RdS} (hz0: ∀x,Z0 x->H0 x≠none) (h:Ry Z0 H0 H b four s) (w:Nat):
    FnW Tryz.prog Zdg ⟨[.pointer (some ⟨b,0,none⟩),.int .i64 (w:Int)]⟩ H fun v H'=>v= .tuple ⟨[]⟩∧Ry Z0 H0 H' b four (s.found w)∧Zcc H H':=by
  obtain ⟨Zn,vp,ca,cc,oa,oc,seen,v4,vm,h4,h⟩:=h;refine Zbyf b w ⟨s.worst,h.get 13 rfl,h.st 13 (by decide) rfl fun H1 hb ho H2 hs=>⟨rfl,?_⟩⟩
  have e:(max (s.worst:Int) w)=((max s.worst w:Nat):Int):=by omega
  rw [e] at hb;have h1:RyX Z0 H0 H1 b four Zn vp ca cc oa oc seen v4 vm h4 (s.found w):=h.turn hz0 ho hb rfl rfl h.at_.path h.seen h.p4 h.m4;refine ⟨⟨Zn,vp,ca,cc,oa,oc,seen,v4,vm,h4,h1.shut hz0 hs fun x hx=>h.at_.keep.live x hx⟩,Zbrl (h.calmB ho) hs⟩
theorem Ry.fin {Z0:Nat->Prop} {H0 H H1:Heap} {b:Nat} {four:Bool} {s:RdS} (hz0: ∀x,Z0 x->H0 x≠none) (k: ∀x,H0 x≠none->H x≠none) (h:Ry Z0 H0 H1 b four s) (c:Zcc H H1) {H2:Heap} (hs:Shut H H1 H2):Ry Z0 H0 H2 b four s∧Zcc H H2:=by obtain ⟨Zn,vp,ca,cc,oa,oc,seen,v4,vm,h4,h⟩:=h;exact ⟨⟨Zn,vp,ca,cc,oa,oc,seen,v4,vm,h4,h.shut hz0 hs k⟩,Zbrl c hs⟩
theorem Ry.keep {Z0:Nat->Prop} {H0 H:Heap} {b:Nat} {four:Bool} {s:RdS} (h:Ry Z0 H0 H b four s):Keep Nil H0 H:=by obtain ⟨Zn,vp,ca,cc,oa,oc,seen,v4,vm,h4,h⟩:=h;exact h.at_.keep
theorem Ry.kept {Z0:Nat->Prop} {H0 H H':Heap} {b:Nat} {four:Bool} {s:RdS} (hz0: ∀x,Z0 x->H0 x≠none) (h:Ry Z0 H0 H b four s) (k:Keep Nil H H'):Ry Z0 H0 H' b four s:=by obtain ⟨Zn,vp,ca,cc,oa,oc,seen,v4,vm,h4,h⟩:=h;exact ⟨Zn,vp,ca,cc,oa,oc,seen,v4,vm,h4,h.kept hz0 k⟩
theorem Zbye {H:Heap} {n:Nat} (hn:H n=none) (o:Obj):Zcc H (H.upd n o):=fun x T c hb _ _ _=>hb.same (Sh.upd_ne fun e=>by subst e;exact hb.some hn)
theorem Zqi {H:Heap} {l:List Value} {T:TypeId} {k:Nat->Heap->Prop} (h: ∀n H1,H n=none->Keep Nil H H1->Zcc H H1->Blk H1 n T ⟨l⟩->k n H1):NewW H (Obj.cells ⟨l⟩ T) k:=fun n hn=>h n _ hn (Zni hn _) (Zbye hn _) Blk.upd_eq
theorem RyX.grow {Z0:Nat->Prop} {H0 H:Heap} {b:Nat} {four:Bool} {Zn:Nat->Prop} {vp:Value} {ca:Option Addr} {cc:Nat} {oa:Option Addr} {oc:Nat} {seen:List Bool} {v4:Value} {vm:Bool×UInt32×UInt32} {h4:Bool} {s:RdS} {l:List UInt32} (h:RyX Z0 H0 H b four Zn vp ca cc oa oc seen v4 vm h4 (Zbu s l)) (hz0: ∀x,Z0 x->H0 x≠none)
    (hlen:s.a.comms.length+l.length <= 1000000) (x:UInt32) {K:Value->Heap->Prop} {xb:Nat} (hx:Blk H xb Zba ⟨[.int .u32 (x.toNat:Int)]⟩)
    (hk: ∀ca' cc' H1,Keep (fun y=>ca=some ⟨y,0,none⟩) H H1->(∀m,ca'=some ⟨m,0,none⟩->ca=some ⟨m,0,none⟩∨H m=none)->
      (∀K':Heap->Prop,(∀H2,RyX Z0 H0 H2 b four Zn vp ca' cc' oa oc seen v4 vm h4 (Zbu s (l++[x]))->(∀y,y≠b->H2 y=H1 y)->K' H2)->Zb H1 ⟨b,11,none⟩ (.slice ca' (s.a.comms.length+l.length+1) cc') K')->K (.slice ca' (s.a.comms.length+l.length+1) cc') H1):
    AppW Tryz.prog #[Zch,Zch] Zch [.slice ca (s.a.comms.length+l.length) cc,.slice (some ⟨xb,0,none⟩) 1 1] H K:=by
  obtain ⟨it,h1,h2,h3⟩:=Zban;have hcl:(s.a.comms++l).length=s.a.comms.length+l.length:=List.length_append;have own:Sh.Own H0 H ca (s.a.comms.length+l.length) cc 1 Zba ((s.a.comms++l).map fun x=>Value.int .u32 (x.toNat:Int)):=by have:=h.at_.comms;rw [← hcl];exact this
  refine Zhj (k:=1) (xc:=1) (new:=[.int .u32 (x.toNat:Int)]) Zux Zux h1 h2 h3 (by decide) Zbmp rfl own h.at_.keep (Reads.blk hx rfl fun j hj=>by simp) (by simp [Zbl]) (by omega) fun ca' cc' H1 hcc ho hn kk k0=>?_
  refine hk ca' cc' H1 kk hn fun K' hK'=>?_;have hb1:Blk H1 b Zei ⟨Zbr (Zbu s l) four vp ca cc oa oc seen v4 vm h4⟩:=kk.blk h.blk h.blkC;refine Zb.blk hb1 (by simp only [List.size_toArray];rw [Zfk h.seen.1];decide) rfl (hK' _ ?_ fun y hy=>Sh.upd_ne hy)
  have a1:=h.at_.grow hz0 kk (x:=x) (ca':=ca') (cc':=cc') (by
    have e:(Zbu s l).a.comms.length=s.a.comms.length+l.length:=hcl;rw [e];exact ho) hn (hcc h.at_.clt)
  have ho': ∀y,y≠b->(H1.upd b (.cells ((⟨Zbr (Zbu s l) four vp ca cc oa oc seen v4 vm h4⟩:Array Value).setIfInBounds 11 (.slice ca' (s.a.comms.length+l.length+1) cc')) Zei (0,0))) y=H1 y:=fun y hy=>Sh.upd_ne hy;have hb2:Blk (H1.upd b (.cells ((⟨Zbr (Zbu s l) four vp ca cc oa oc seen v4 vm h4⟩:Array Value).setIfInBounds 11 (.slice ca' (s.a.comms.length+l.length+1) cc')) Zei (0,0))) b Zei ⟨Zbr (Zbu s (l++[x])) four vp ca' cc' oa oc seen v4 vm h4⟩:=by
    have e:(⟨Zbr (Zbu s l) four vp ca cc oa oc seen v4 vm h4⟩:Array Value).setIfInBounds 11 (.slice ca' (s.a.comms.length+l.length+1) cc')=⟨Zbr (Zbu s (l++[x])) four vp ca' cc' oa oc seen v4 vm h4⟩:=by
      apply Array.ext';simp only [Array.toList_setIfInBounds];have e2:s.a.comms.length+l.length+1=(s.a.comms++(l++[x])).length:=by simp;omega
      rw [e2];rfl
    rw [e];exact Blk.upd_eq
  generalize H1.upd b (.cells ((⟨Zbr (Zbu s l) four vp ca cc oa oc seen v4 vm h4⟩:Array Value).setIfInBounds 11 (.slice ca' (s.a.comms.length+l.length+1) cc')) Zei (0,0))=H2 at ho' hb2;have k12:Keep (fun y=>y=b) H1 H2:=⟨fun y hy _=>ho' y hy,fun y hy=>by
    by_cases e:y=b;subst e;exact hb2.some
    . rw [ho' y e];exact hy⟩
  have hcb:ca'≠some ⟨b,0,none⟩:=fun e=>by rcases hn b e with h1 | h1;exact h.blkC h1;exact h.blk.some h1
  have a2:=a1.step hz0 k12 fun y hy=>by subst hy;exact ⟨a1.bn,a1.bz,hcb,h.blkO⟩
  have hz: ∀y,Or2 Z0 Zn y->Or2 Z0 Zn y∧H2 y=H y:=fun y hy=>⟨hy,by
    have hl:=h.at_.zlive hz0 y hy;rw [ho' y (fun e=>by
      subst e;rcases hy with hy | hy;exact hz0 y hy h.at_.bn
      . exact h.at_.bz hy)]
    refine kk.same y (fun hc=>?_) hl;rcases hy with hy | hy;exact hz0 y hy (h.at_.comms.free hc)
    . exact h.at_.cz y hc hy⟩
  refine ⟨?_,hb2,h.seen,h.p4.ext hz,h.m4⟩;have e3:(Zbu s (l++[x])).a.comms=(Zbu s l).a.comms++[x]:=by show s.a.comms++(l++[x])=(s.a.comms++l)++[x];simp
  rw [e3];exact a2
theorem Zcrv (four:Bool):setL Zbec 270 [.bool four]=Zbr rd0 four (.slice none 0 0) none 0 none 0 (List.replicate 256 false) (.slice none 0 0) (false,0,0) false:=by cases four<;>kernel_rfl
end Go.Proofs.YthdffaojeghaeaaGreatDoor
end
section
set_option maxRecDepth 100000
namespace Go.Proofs.YthdffaojeghaeaaGreatDoor
open Go.Sh
theorem Zbbu {H:Heap} {Z:Nat->Prop} {d:List UInt8} {v:Value} (hz: ∀x,Z x->H x≠none) (hy:Lyd H) (hd:Za Z H Zp d v) (hl:4 <= d.length):
    FnW Tryz.prog Zfe ⟨[v]⟩ H fun r H'=>Keep Nil H H'∧r= .int .u32 ((u32B (d.take 4)).toNat:Int):=by
  obtain ⟨x,y,z,w,t,rfl⟩:=hd4 hl;refine (FnQ.run (x:=((x::y::z::w::t:List UInt8),())) Zcnd rfl rfl (Z:=Z) ?_ hz hy.live hy.ok (K:=fun r=>r.1=(numB [x,y,z,w]:Int)) (Zcqe x y z w t _ rfl)).mono fun r H' hk=>?_;simp only [pksA,pkA,SimL,SimV,and_true];exact hd
  . obtain ⟨k,y1,h1,_,h3⟩:=hk;have:=h3 0 (gZ fun _=>False);obtain ⟨y1,u⟩:=y1;simp only at h1;subst h1;simp only [pksA,pkA,outA,SimV] at this;refine ⟨k,?_⟩;rw [this.1];have e:(x::y::z::w::t).take 4= [x,y,z,w]:=rfl;rw [e];have hb:=Zjc [x,y,z,w];simp only [List.length_cons,List.length_nil] at hb;have:(u32B [x,y,z,w]).toNat=numB [x,y,z,w]:=by unfold u32B;rw [UInt32.toNat_ofNat'];omega
    rw [this]
theorem Zbrw {H:Heap} {Z:Nat->Prop} {d:List UInt8} {v:Value} {four:Bool} (hz: ∀x,Z x->H x≠none) (hy:Lyd H) (hd:Za Z H Zp d v) (hl:d.length <= 1000000000):
    FnW Tryz.prog Zsb ⟨[v,.bool four]⟩ H fun r H'=>Keep Nil H H'∧∃Zn p vp e,Zbi H H' Zn∧r= .tuple ⟨[vp,.int .i64 e]⟩∧Za (Or2 Z Zn) H' Zbf p vp∧((Zdf four d=some p∧e=0)∨(Zdf four d=none∧p= []∧e=7)):=by
  refine (FnQ.runZ (x:=(d,four,())) Zcgj rfl rfl (Z:=Z) ?_ hz hy.live hy.ok (K:=fun r=>(Zdf four d=some r.1∧(r.2.1:Int)=(0:Int))∨(Zdf four d=none∧r.1= []∧(r.2.1:Int)=(7:Int))) (Zcfi d four _ hl ?_)).mono fun r H' hk=>?_;simp only [pksA,pkA,SimL,SimV,and_true];exact hd
  . unfold rpK;cases h:Zdf four d with
    | none=>exact .inr ⟨rfl,rfl,rfl⟩
    | some p=>exact .inl ⟨rfl,rfl⟩
  . obtain ⟨k,y1,Zn,h1,_,hf,h3⟩:=hk;obtain ⟨p,e,u⟩:=y1;simp only [pksA,pkA,outA,SimV,SimL] at h3 h1;obtain ⟨vs,rfl,hvs⟩:=h3
    match vs,hvs with
    | [a,b],hvs=>
      simp only [SimL,SimV,and_true] at hvs;obtain ⟨ha,rfl,_⟩:=hvs;exact ⟨k,Zn,p,a,e,hf,rfl,ha,h1⟩
theorem Zcch {H:Heap} {Z:Nat->Prop} {p:List Seg} {vp:Value} (hz: ∀x,Z x->H x≠none) (hy:Lyd H) (hp:Za Z H Zbf p vp) (hl:p.length <= 9223372036854775807) (hc:cnt p <= 9223372036854775807):
    FnW Tryz.prog Znu ⟨[vp]⟩ H fun r H'=>Keep Nil H H'∧r= .int .i64 (Ziq (Zbs p)):=by
  refine (FnQ.run (x:=(p,())) Zbml rfl rfl (Z:=Z) ?_ hz hy.live hy.ok (K:=fun r=>r.1=Ziq (Zbs p)) (Zbxh p _ hl hc rfl)).mono fun r H' hk=>?_;simp only [pksA,pkA,SimL,SimV,and_true];exact hp;obtain ⟨k,y1,h1,_,h3⟩:=hk;have:=h3 0 (gZ fun _=>False);obtain ⟨y1,u⟩:=y1;simp only at h1;subst h1;simp only [pksA,pkA,outA,SimV] at this;exact ⟨k,this.1⟩
theorem RyX.putO {Z0:Nat->Prop} {H0 H H1:Heap} {b:Nat} {four:Bool} {Zn:Nat->Prop} {vp:Value} {ca:Option Addr} {cc:Nat} {oa:Option Addr} {oc:Nat} {seen:List Bool} {v4:Value} {vm:Bool×UInt32×UInt32} {h4:Bool} {s:RdS} (h:RyX Z0 H0 H b four Zn vp ca cc oa oc seen v4 vm h4 s) (hz0: ∀x,Z0 x->H0 x≠none)
    (kk:Keep (fun y=>oa=some ⟨y,0,none⟩) H H1) {os':List Raw} {oa':Option Addr} {oc':Nat} (a1:AtI Z0 H0 H1 b Zn s.a.path vp s.a.comms ca cc os' oa' oc') (hn: ∀m,oa'=some ⟨m,0,none⟩->oa=some ⟨m,0,none⟩∨H m=none) {l:Nat} (hl:os'.length=l) {K:Heap->Prop}
    (hK: ∀H2,RyX Z0 H0 H2 b four Zn vp ca cc oa' oc' seen v4 vm h4 (Zia s os')->(∀y,y≠b->H2 y=H1 y)->K H2):Zb H1 ⟨b,12,none⟩ (.slice oa' l oc') K:=by
  subst hl;have hb1:Blk H1 b Zei ⟨Zbr s four vp ca cc oa oc seen v4 vm h4⟩:=kk.blk h.blk h.blkO;refine Zb.blk hb1 (by simp only [List.size_toArray];rw [Zfk h.seen.1];decide) rfl (hK _ ?_ fun y hy=>Sh.upd_ne hy)
  have ho': ∀y,y≠b->(H1.upd b (.cells ((⟨Zbr s four vp ca cc oa oc seen v4 vm h4⟩:Array Value).setIfInBounds 12 (.slice oa' os'.length oc')) Zei (0,0))) y=H1 y:=fun y hy=>Sh.upd_ne hy;have hb2:Blk (H1.upd b (.cells ((⟨Zbr s four vp ca cc oa oc seen v4 vm h4⟩:Array Value).setIfInBounds 12 (.slice oa' os'.length oc')) Zei (0,0))) b Zei ⟨Zbr (Zia s os') four vp ca cc oa' oc' seen v4 vm h4⟩:=by
    have e:(⟨Zbr s four vp ca cc oa oc seen v4 vm h4⟩:Array Value).setIfInBounds 12 (.slice oa' os'.length oc')=⟨Zbr (Zia s os') four vp ca cc oa' oc' seen v4 vm h4⟩:=by apply Array.ext';simp only [Array.toList_setIfInBounds];rfl
    rw [e];exact Blk.upd_eq
  generalize H1.upd b (.cells ((⟨Zbr s four vp ca cc oa oc seen v4 vm h4⟩:Array Value).setIfInBounds 12 (.slice oa' os'.length oc')) Zei (0,0))=H2 at ho' hb2;have k12:Keep (fun y=>y=b) H1 H2:=⟨fun y hy _=>ho' y hy,fun y hy=>by
    by_cases e:y=b;subst e;exact hb2.some
    . rw [ho' y e];exact hy⟩
  have hcb:oa'≠some ⟨b,0,none⟩:=fun e=>by rcases hn b e with h1 | h1;exact h.blkO h1;exact h.blk.some h1
  have a2:=a1.step hz0 k12 fun y hy=>by subst hy;exact ⟨a1.bn,a1.bz,h.blkC,hcb⟩
  have hz: ∀y,Or2 Z0 Zn y->Or2 Z0 Zn y∧H2 y=H y:=fun y hy=>⟨hy,by
    have hl:=h.at_.zlive hz0 y hy;rw [ho' y (fun e=>by
      subst e;rcases hy with hy | hy;exact hz0 y hy h.at_.bn
      . exact h.at_.bz hy)]
    refine kk.same y (fun hc=>?_) hl;obtain ⟨xs,own,_⟩:=h.at_.others;rcases hy with hy | hy;exact hz0 y hy (own.free hc)
    . exact h.at_.oz y hc hy⟩
  exact ⟨a2,hb2,h.seen,h.p4.ext hz,h.m4⟩
theorem Zcfx {H:Heap} (n:Int) (hn:InR .i64 n) (hy:Lyd H):FnW Tryz.prog Ztn ⟨[.int .i64 n]⟩ H fun r H'=>Keep Nil H H'∧r= .bool (Zda n):=by refine (FnQ.run (x:=(n,())) Zcmp rfl rfl (Z:=fun _=>False) ?_ (fun _ h=>h.elim) hy.live hy.ok (K:=fun r=>r.1=Zda n) (Zbyq _ _ rfl)).mono fun r H' hk=>?_;simp only [pksA,pkA,SimL,SimV,and_true];exact ⟨trivial,hn⟩;obtain ⟨k,y1,h1,_,h3⟩:=hk;have:=h3 0 (gZ fun _=>False);obtain ⟨y1,u⟩:=y1;simp only at h1;subst h1;simp only [pksA,pkA,outA,SimV] at this;exact ⟨k,this⟩
theorem Zcrg {H:Heap} (n:Int) (hn:InR .i64 n) (hk:Zda n=true) (hy:Lyd H):FnW Tryz.prog Ztp ⟨[.int .i64 n]⟩ H fun r H'=>Keep Nil H H'∧r= .int .u8 (Zdc n):=by refine (FnQ.run (x:=(n,())) Zcox rfl rfl (Z:=fun _=>False) ?_ (fun _ h=>h.elim) hy.live hy.ok (K:=fun r=>r.1=Zdc n) (Zbys _ _ hk rfl)).mono fun r H' hk=>?_;simp only [pksA,pkA,SimL,SimV,and_true];exact ⟨trivial,hn⟩;obtain ⟨k,y1,h1,_,h3⟩:=hk;have:=h3 0 (gZ fun _=>False);obtain ⟨y1,u⟩:=y1;simp only at h1;subst h1;simp only [pksA,pkA,outA,SimV] at this;exact ⟨k,this.1⟩
theorem Zcfm: ∃it,Tryz.prog.info? Zec=some it∧it.size=1∧it.bytes=1:=by
  have h:(Tryz.prog.info? Zec).map (fun i=>(i.size,i.bytes))=some (1,1):=by kernel_rfl
  cases hi:Tryz.prog.info? Zec with
  | none=>rw [hi] at h;cases h
  | some i=>rw [hi] at h;simp only [Option.map_some,Option.some.injEq,Prod.mk.injEq] at h;exact ⟨i,rfl,h.1,h.2⟩
theorem Zbjm {H0 H1:Heap} {Z:Nat->Prop} {d e:List UInt8} {m:Nat} {a:Option Addr} {n c:Nat} (hz: ∀x,Z x->H0 x≠none) (k1:Keep Nil H0 H1) (hm:H0 m=none) (hb:Blk H1 m Zec ⟨e.map fun x=>Value.int .u8 (x.toNat:Int)⟩) (hd:Za Z H0 Zp d (.slice a n c)) (hdl:d.length <= 1000000) (hel:e.length <= 1000) {K:Value->Heap->Prop}
    (hk: ∀a' c' H' Zn,Keep Nil H0 H'->Zbi H0 H' Zn->Za (Or2 Z Zn) H' Zp (e++d) (.slice a' (e.length+d.length) c')->K (.slice a' (e.length+d.length) c') H'):
    AppW Tryz.prog #[Zep,Zep] Zep [.slice (some ⟨m,0,none⟩) e.length e.length,.slice a n c] H1 K:=by
  obtain ⟨it,i1,i2,i3⟩:=Zcfm;have hd1:Za Z H1 Zp d (.slice a n c):=Zfh hz hd k1;obtain ⟨a',n',c',new,e',h1,h2,h3,h4,h5,h6⟩:=Zkx (g:=gZ Z) (ks:=[.int .u8]) (xs:=d) hd1;cases e';have h1:d.length=n:=h1;have hnl:new.length=n:=by have:=h4.len;simpa using this
  refine Zhj (e:=Zec) (xe:=Zec) (z:=[.int .u8 0]) (by kernel_rfl) (by kernel_rfl) i1 i2 i3 (by decide) (by kernel_rfl) rfl (Sh.Own.row (H0:=H0) (n:=e.length) hm hb (by simp)) k1 (new:=new) (by simpa using h4) h6 (by omega) fun a' cap' H' w0 w1 w2 w3 w4=>?_
  rw [← h1] at w1 ⊢;have hcl:cap' <= Zj:=w0 (by unfold Zj at*;omega)
  refine hk a' cap' H' (fun x=>a'=some ⟨x,0,none⟩) w4 (fun x hx=>?_) (Zjw (ks:=[.int .u8]) (l:=(e++d:List UInt8)) w1 (by show (e++d).length=_;rw [List.length_append]) ?_ hcl fun x hx=> .inr hx)
  obtain ⟨cx,hcx⟩:=w1.live hx;exact ⟨w1.free hx,hcx.some,fun ds e=>by unfold Blk at hcx;rw [hcx] at e;cases e⟩
  . intro i r hr;change UInt8 at r;have hr:(e++d)[i]? =some r:=hr;simp only [Zd,Za,and_true];have hu:InR .u8 (r.toNat:Int):=⟨by simp [loI],by have:=UInt8.toNat_lt r;simp only [hiI];omega⟩
    refine ⟨_,?_,rfl,WfI.of hu⟩;rcases Nat.lt_or_ge i e.length with hi | hi
    . rw [List.getElem?_append_left hi] at hr;rw [List.getElem?_append_left (by simpa using hi)]
      simp [hr];rfl
    . rw [List.getElem?_append_right hi] at hr;rw [List.getElem?_append_right (by simpa using hi)]
      have:=h5 (i - e.length) r hr;simp only [Zd,Za,and_true] at this;obtain ⟨v,h7,rfl,_⟩:=this;simpa using h7
theorem Zbmk {H:Heap} {Z:Nat->Prop} {d:List UInt8} {a:Option Addr} {n c:Nat} (hz: ∀x,Z x->H x≠none) (hd:Za Z H Zp d (.slice a n c)) (hdl:d.length <= 1000000) {K:Value->Heap->Prop}
    (hk: ∀a' c' H' Zn,Keep Nil H H'->Zbi H H' Zn->Za (Or2 Z Zn) H' Zp d (.slice a' d.length c')->K (.slice a' d.length c') H'):
    NewW H (Obj.cells ⟨[]⟩ Zec) fun nb H1=>AppW Tryz.prog #[Zep,Zep] Zep [.slice (some ⟨nb,0,none⟩) 0 0,.slice a n c] H1 K:=
  newB fun nb H1 hn k1 _ hb=>Zbjm (e:=[]) hz k1 hn hb hd hdl (by simp) fun a' c' H' Zn q1 q2 q3=>by
    rw [List.nil_append] at q3;rw [show ([]:List UInt8).length+d.length=d.length by simp] at q3 ⊢
    exact hk a' c' H' Zn q1 q2 q3
theorem Zcnj {Z0:Nat->Prop} {H0 H:Heap} {b:Nat} {four:Bool} {s:RdS} {d:List UInt8} {a:Option Addr} {n c:Nat} (hz0: ∀x,Z0 x->H0 x≠none) (hy:Lyd H0) (hd:Za Z0 H0 Zp d (.slice a n c)) (hdl:d.length <= 100000) (h:Ry Z0 H0 H b four s) {kd:Nat} (hkd:kd<256):
    FnW Tryz.prog Zui ⟨[.pointer (some ⟨b,0,none⟩),.int .i64 (kd:Int),.slice a n c]⟩ H fun v H'=>v= .tuple ⟨[]⟩∧Ry Z0 H0 H' b four (Zex kd d s)∧Zcc H H':=by
  obtain ⟨Zn,vp,ca,cc,oa,oc,seen,v4,vm,h4,h⟩:=h;obtain ⟨hn,hnc,hcm2⟩:=Zfy hd;have hkl: ∀x,H0 x≠none->H x≠none:=h.at_.keep.live;have spec:Zex kd d s=if 8 <= s.a.others.length∨255<d.length then s.found 1 else Zia s (insO kd d s.a.others):=rfl
  have fin: ∀(s':RdS),s'=Zex kd d s->∀H1,Ry Z0 H0 H1 b four s'->Zcc H H1->∀H2,Shut H H1 H2->Value.tuple ⟨[]⟩= .tuple ⟨[]⟩∧Ry Z0 H0 H2 b four (Zex kd d s)∧Zcc H H2:=by rintro s' rfl H1 h1 c1 H2 hs;exact ⟨rfl,h1.fin hz0 hkl c1 hs⟩
  have hkr:InR .i64 (kd:Int):=⟨by simp only [loI];omega,by simp only [hiI];omega⟩
  refine Zcnt b (kd:Int) a n c ⟨oa,s.a.others.length,oc,h.get 12 rfl,?_⟩;have bad:(8 <= s.a.others.length∨255<d.length)->Zsh b (kd:Int) a n c true H fun v H1=>∀H2,Shut H H1 H2->v= .tuple ⟨[]⟩∧Ry Z0 H0 H2 b four (Zex kd d s)∧Zcc H H2:=fun hb=>by unfold Zsh;refine ifT rfl ((Zkz hz0 ⟨_,_,_,_,_,_,_,_,_,_,h⟩ 1).mono fun v H3 hm=>?_);obtain ⟨rfl,r3,c3⟩:=hm;exact ⟨rfl,fin _ (by rw [spec,if_pos hb]) H3 r3 c3⟩
  refine IfB.intro (fun h8=>bad (.inl (by have:=of_decide_eq_true h8;omega))) fun h8=>?_
  have h8:s.a.others.length<8:=by have:=of_decide_eq_false h8;omega
  by_cases h255:255<d.length
  . rw [decide_eq_true (by omega)];exact bad (.inr h255)
  rw [decide_eq_false (by omega)]
  rw [if_neg (by omega)] at spec
  unfold Zsh;obtain ⟨xs,own,hc⟩:=h.at_.others;have hxl:=own.len;have ins: ∀(i:Nat) (next:(Int×Unit)->Heap->Prop),i <= s.a.others.length->posO (kd:Int) s.a.others=i->Zrn b (kd:Int) a n c (i:Int) next false H fun v H1=>∀H2,Shut H H1 H2->v= .tuple ⟨[]⟩∧Ry Z0 H0 H2 b four (Zex kd d s)∧Zcc H H2:=fun i next hi hpos=>by
    unfold Zrn;refine ifF rfl (Zbmk (Zeo hz0 h.at_.keep) (Zfh hz0 hd h.at_.keep) (by omega) fun va vc H6 Z1 k6 hf6 hv6=>⟨va,_,vc,rfl,?_⟩)
    have q6:=h.more hz0 k6 hf6;have hv6':Za (Or2 Z0 (Or2 Zn Z1)) H6 Zp d (.slice va d.length vc):=Za.ext (fun x hx=>⟨hx.elim .inl fun h=> .inr (.inr h),rfl⟩) _ _ _ hv6;refine newB fun p H7 hp k7 _ hbp=>?_;refine Zfp (b:=p) [.int .i64 (kd:Int),.slice va d.length vc] 0 [] [.int .i64 0,.slice none 0 0] H7 hbp rfl rfl (by simp [Zbl]) fun H9 e9 o9=>?_
    have e9:Blk H9 p Zbw ⟨[.int .i64 (kd:Int),.slice va d.length vc]⟩:=e9;have k69:Keep Nil H6 H9:=Zdz k7 (Zfb e9 o9) fun y hy=>by subst hy;exact hp
    have q9:=q6.kept hz0 k69;have hpb:p≠b:=fun e=>q6.blk.some (e▸hp);have hpo:oa≠some ⟨p,0,none⟩:=fun e=>by obtain ⟨cx,hcx⟩:=q6.at_.liveO p e;exact hcx.some hp
    have own9:=Zdd own (k6.trans k69) fun _ h=>h.elim;have k09:=q9.at_.keep;have hoc:oc <= Zj:=h.at_.olt;refine ⟨[p,b],fun y hym=>?_,oa,_,oc,q9.get 12 rfl,InC.intro i rfl (by have:=own.le;omega) ⟨by simp,_,Zr e9 0 rfl,_,_,_,Zr e9 1 rfl,by simp,oa,_,oc,q9.get 12 rfl,InC.intro i rfl hi ?_⟩⟩
    simp only [List.mem_cons,List.not_mem_nil,or_false] at hym;rcases hym with rfl | rfl;exact Option.ne_none_iff_exists'.1 e9.some;exact Option.ne_none_iff_exists'.1 q9.blk.some;have keptK: ∀{H':Heap},Keep Nil H9 H'->Zcl [p,b] H9 H':=fun {H'} k y hym=>by simp only [List.mem_cons,List.not_mem_nil,or_false] at hym;rcases hym with rfl | rfl;exact ⟨Option.ne_none_iff_exists'.1 e9.some,k.same _ (fun h=>h) e9.some⟩;exact ⟨Option.ne_none_iff_exists'.1 q9.blk.some,k.same _ (fun h=>h) q9.blk.some⟩
    refine newB fun nb H10 hnb k10 _ b10=>newB fun xb H11 hxb k11 _ b11=>?_;obtain ⟨it,i1,i2,i3⟩:=Zbqr;have k911:=k10.trans k11;have rd: ∀{H':Heap},Keep Nil H9 H'->Reads H' oa (s.a.others.length*2) xs:=fun {H'} k=>(Zdd own9 k fun _ h=>h.elim).reads;have pl: ∀v∈xs,Zbl v=true:=Zbrf hc hxl;refine Zhj (k:=i) (xc:=oc) (new:=xs.take (i*2)) Zfo Zfo i1 i2 i3 (by decide) Zrt rfl (Sh.Own.start (H0:=H9) hnb (k11.blk b10 fun h=>h)) k911 ((rd k911).take (by omega)) (fun v hv=>pl v (List.mem_of_mem_take hv)) (by omega) fun a1 c1 H12 w0 w1 w2 w3 w4=>?_
    rw [Nat.zero_add,List.nil_append] at w1;rw [Nat.zero_add];have b12:Blk H12 xb Zbw ⟨[.int .i64 (kd:Int),.slice va d.length vc]⟩:=w3.blk b11 fun e=>by have e:(some ⟨nb,0,none⟩:Option Addr)=some ⟨xb,0,none⟩:=e;simp only [Option.some.injEq,Addr.mk.injEq,and_true] at e;subst e;exact b10.some hxb
    refine ⟨a1,i,c1,rfl,keptK w4,?_⟩;refine Zhj (k:=1) (xc:=1) (new:=[.int .i64 (kd:Int),.slice va d.length vc]) Zfo Zfo i1 i2 i3 (by decide) Zrt rfl w1 w4 (Reads.blk b12 rfl fun j hj=>by simp) (by simp [Zbl]) (by omega) fun a2 c2 H13 x0 x1 x2 x3 x4=>?_
    refine ⟨a2,i+1,c2,rfl,keptK x4,?_⟩;have rdD:Reads H13 (if oc=i then oa else Option.map (fun a=>Addr.add a (i*2)) oa) ((s.a.others.length - i)*2) (xs.drop (i*2)):=by
      rcases Nat.eq_zero_or_pos s.a.others.length with h0 | h0
      . have hi0:i=0:=by omega
        subst hi0;have hx0:xs= []:=List.eq_nil_of_length_eq_zero (by omega)
        subst hx0;rw [h0];refine ⟨rfl,?_⟩;cases hq:(if oc=0 then oa else Option.map (fun a=>Addr.add a (0*2)) oa) with
        | none=>rfl
        | some a=>intro h0;simp at h0
      . obtain ⟨m,rfl⟩:=own.addr h0;by_cases ho:oc=i
        . have:=own.le;have hin:i=s.a.others.length:=by omega
          rw [if_pos ho,hin,Nat.sub_self,List.drop_eq_nil_of_le (by omega)]
          exact ⟨rfl,fun h0=>by simp at h0⟩
        . rw [if_neg ho,Option.map_some,Zcv rfl];obtain ⟨rest,hbm,_⟩:=(Zdd own9 x4 fun _ h=>h.elim).blk rfl;refine Reads.blk (b:=m) (o:=0+i*2) (xs:=xs.drop (i*2)) (k:=(s.a.others.length - i)*2) hbm (by rw [List.length_drop,hxl];omega) fun j hj=>?_
          simp only [List.getElem?_toArray];rw [List.getElem?_append_left (show 0+i*2+j<xs.length by omega),List.getElem?_drop]
          congr 1;omega
    refine Zhj (k:=s.a.others.length - i) (xc:=oc - i) (new:=xs.drop (i*2)) Zfo Zfo i1 i2 i3 (by decide) Zrt rfl x1 x4 rdD (fun v hv=>pl v (List.mem_of_mem_drop hv)) (by omega) fun a3 c3 H14 y0 y1 y2 y3 y4=>?_
    refine ⟨a3,_,c3,rfl,keptK y4,?_⟩;have el:i+1+(s.a.others.length - i)=s.a.others.length+1:=by omega
    rw [el] at y1 ⊢;have hcc:c3 <= Zj:=y0 (x0 (w0 (by decide)))
    have hv9:Za (Or2 Z0 (Or2 Zn Z1)) H9 Zp d (.slice va d.length vc):=Za.ext (fun x hx=>⟨hx,k69.same x (fun h=>h.elim) (q6.at_.zlive hz0 x hx)⟩) _ _ _ hv6';have hc9: ∀i r,s.a.others[i]? =some r->Zd (Or2 Z0 (Or2 Zn Z1)) H9 Ziz r (fun j=>xs[i*2+j]?):=fun i r hr=>Zd.ext (fun x hx=>⟨hx.elim .inl fun h=> .inr (.inl h),(k6.trans k69).same x (fun h=>h.elim) (h.at_.zlive hz0 x hx)⟩) _ _ _ (hc i r hr);have kS:Keep (fun x=>oa=some ⟨x,0,none⟩) H9 H14:=y4.mono fun _ h=>h.elim;have hnew: ∀m,a3=some ⟨m,0,none⟩->oa=some ⟨m,0,none⟩∨H9 m=none:=fun m hm=> .inr (y1.free hm);have own14:Sh.Own H0 H14 a3 (s.a.others.length+1) c3 2 Zbw (xs.take (2*i)++([.int .i64 (kd:Int),.slice va d.length vc]++xs.drop (2*i))):=by have:=y1.mono k09;rw [Nat.mul_comm i 2,List.append_assoc] at this;exact this
    have a8:=q9.at_.insert hz0 kS own9 hc9 hkr hv9 hi own14 hnew hcc;refine q9.putO hz0 kS a8 hnew (by simp only [List.length_append,List.length_take,List.length_cons,List.length_drop];omega) fun H15 x15 ho15=>?_
    refine fin (Zia s (s.a.others.take i++((kd:Int),d)::s.a.others.drop i)) (by rw [spec,Zbdh,hpos]) H15 ⟨_,_,_,_,_,_,_,_,_,_,x15⟩ ?_
    refine (Zhh ((k6.trans k69).trans y4)).trans fun y T cx hb' t1 t2 t3=>?_;refine hb'.same (ho15 y fun e=>?_);subst e;have h1:=y4.blk q9.blk fun h=>h;unfold Blk at h1 hb';rw [h1] at hb';cases hb';exact t1 rfl
  refine ⟨fun k x Hx=>Hx=H∧∃i:Nat,i <= s.a.others.length∧k=s.a.others.length - i∧x=((i:Int),())∧∀j (hj:j<s.a.others.length),j<i->(s.a.others[j]).1<kd,s.a.others.length,⟨rfl,0,Nat.zero_le _,rfl,rfl,fun j _ hj=>absurd hj (by omega)⟩,?_⟩
  rintro k x Hx ⟨rfl,i,hi,rfl,rfl,hlt⟩ gE;dsimp only;unfold Zbiy;refine ⟨oa,_,oc,h.get 12 rfl,IfB.intro (fun h1=>?_) fun h1=>?_⟩
  . have h1:i<s.a.others.length:=by have:=of_decide_eq_true h1;omega
    obtain ⟨m,rfl⟩:=own.addr (by omega)
    obtain ⟨rest,hbm,_⟩:=own.blk rfl;obtain ⟨c0,a1,n1,c1,hc1⟩:=Zbef hc h1;refine ⟨_,_,oc,h.get 12 rfl,NilP.intro ⟨m,0,none⟩ rfl (InB.intro i rfl h1 ?_)⟩;rw [Zez];have g0:Hx.cell ⟨m,0+i*2,none⟩=some (.int .i64 (s.a.others[i]).1):=by
      rw [hbm.cell];simp only [List.getElem?_toArray];rw [Nat.zero_add,List.getElem?_append_left (by omega)];exact c0
    refine ⟨_,g0,?_⟩;by_cases hk:(s.a.others[i]).1<(kd:Int)
    . rw [decide_eq_true hk];unfold Zrn;refine ifT rfl ⟨s.a.others.length - (i+1),by omega,rfl,i+1,by omega,rfl,?_,fun j hj hji=>?_⟩
      . rw [Ze (by omega) (by omega)];simp
      . rcases Nat.lt_or_ge j i with h | h;exact hlt j hj h
        . have:j=i:=by omega
          subst this;exact hk
    rw [decide_eq_false hk];exact ins i _ hi (Zoj _ i hi hlt fun _=>hk)
  . have h1:i=s.a.others.length:=by have:=of_decide_eq_false h1;omega
    exact ins i _ hi (Zoj _ i hi hlt fun h=>absurd h (by omega))
end Go.Proofs.YthdffaojeghaeaaGreatDoor
end
section
set_option maxRecDepth 100000
namespace Go.Proofs.YthdffaojeghaeaaGreatDoor
open Go.Sh
theorem ybad {Z0:Nat->Prop} {H0 H H':Heap} {b:Nat} {four:Bool} {s:RdS} (hz0: ∀x,Z0 x->H0 x≠none) (w:Nat) (hr:Ry Z0 H0 H' b four s) (hc:Zcc H H') {R:Value->Heap->Prop} (done: ∀H1,Ry Z0 H0 H1 b four (s.found w)->Zcc H H1->R (.tuple ⟨[]⟩) H1):
    FnW Tryz.prog Zdg ⟨[.pointer (some ⟨b,0,none⟩),.int .i64 (w:Int)]⟩ H' fun v H3=>v= .tuple ⟨[]⟩∧R (.tuple ⟨[]⟩) H3:=
  (Zkz hz0 hr w).mono fun v H3 hm=>by obtain ⟨rfl,r3,c3⟩:=hm;exact ⟨rfl,done H3 r3 (hc.trans c3)⟩
theorem yu32 {l:List UInt8} (h:l.length <= 4):(u32B l).toNat=numB l:=by
  unfold u32B;rw [UInt32.toNat_ofNat'];have:=Zjc l;have h2:256^l.length <= 256^4:=Nat.pow_le_pow_right (by decide) h
  omega
theorem Zbqx (l:List UInt8):numB (0::l)=numB l:=by simp [numB]
theorem stB {H:Heap} {b:Nat} {T:TypeId} {l:List Value} (hb:Blk H b T ⟨l⟩) (j:Nat) {v:Value} {K:Heap->Prop} (hj:j<l.length) (hv:Zbl v=true) (hk: ∀H',Blk H' b T ⟨l.set j v⟩->(∀x,x≠b->H' x=H x)->K H'):Zb H ⟨b,j,none⟩ v K:=by
  refine Zb.blk hb (by simpa using hj) hv (hk _ ?_ fun x hx=>Sh.upd_ne hx)
  have e:(⟨l⟩:Array Value).setIfInBounds j v=⟨l.set j v⟩:=by apply Array.ext';simp
  rw [e];exact Blk.upd_eq
theorem Znh {d:List UInt8} {n:Nat} (h:n=d.length) {k:Nat} (e:((n:Int) !=(k:Int))=true): ¬d.length=k:=fun h2=>by rw [h,h2] at e;simp at e
theorem Zmd {d:List UInt8} {n:Nat} (h:n=d.length) {k:Nat} (e:((n:Int) !=(k:Int))=false):d.length=k:=by
  have:(n:Int)=(k:Int):=by simpa using e
  omega
theorem Zcow {Z0:Nat->Prop} {H0 H:Heap} {b:Nat} {four:Bool} {s:RdS} {d:List UInt8} {a:Option Addr} {n c:Nat} (hz0: ∀x,Z0 x->H0 x≠none) (hy:Lyd H0) (hd:Za Z0 H0 Zp d (.slice a n c)) (hdl:d.length <= 100000) (h:Ry Z0 H0 H b four s) {kd:Nat} (hkd:kd<256) (hcm:kd=8->s.a.comms.length <= 1000):
    FnW Tryz.prog Zzo ⟨[.pointer (some ⟨b,0,none⟩),.int .i64 (kd:Int),.slice a n c]⟩ H fun v H'=>v= .tuple ⟨[]⟩∧Ry Z0 H0 H' b four (oneF four kd d s)∧Zcc H H':=by
  obtain ⟨Zn,vp,ca,cc,oa,oc,seen,v4,vm,h4,h⟩:=h;obtain ⟨hn,hnc,hcm2⟩:=Zfy hd;unfold Zj at hcm2;have hkl: ∀x,H0 x≠none->H x≠none:=h.at_.keep.live;refine Zcux b (kd:Int) a n c ?_;generalize hR:(fun v H1=>∀H2,Shut H H1 H2->v=Value.tuple ⟨[]⟩∧Ry Z0 H0 H2 b four (oneF four kd d s)∧Zcc H H2)=R;have done: ∀s',s'=oneF four kd d s->∀H1,Ry Z0 H0 H1 b four s'->Zcc H H1->R (.tuple ⟨[]⟩) H1:=by rintro s' rfl H1 h1 c1;rw [← hR];exact fun H2 hs=>⟨rfl,h1.fin hz0 hkl c1 hs⟩
  have hr0:Ry Z0 H0 H b four s:=⟨_,_,_,_,_,_,_,_,_,_,h⟩;have c0:Zcc H H:=Zcc.refl _;have kHd: ∀{H':Heap},Keep Nil H0 H'->Za Z0 H' Zp d (.slice a n c):=fun k=>Zfh hz0 hd k;have getd: ∀{H':Heap},Keep Nil H0 H'->4 <= d.length->FnW Tryz.prog Zfe ⟨[.slice a n c]⟩ H' fun r H''=>Keep Nil H' H''∧r= .int .u32 ((u32B (d.take 4)).toNat:Int):=fun k hl=>Zbbu (Zeo hz0 k) (hy.keep k) (kHd k) hl;have getk: ∀{H':Heap} (l:Nat),Keep Nil H0 H'->l+4 <= d.length->FnW Tryz.prog Zfe ⟨[.slice (if c=l then a else Option.map (fun a=>Addr.add a (l*1)) a) (n - l) (c - l)]⟩ H' fun r H''=>Keep Nil H' H''∧r= .int .u32 ((u32B ((d.drop l).take 4)).toNat:Int):=fun l k hl=>Zbbu (d:=d.drop l) (Zeo hz0 k) (hy.keep k) (Zkn (kHd k) (by omega)) (by rw [List.length_drop];omega)
  have tk4: ∀{l:List UInt8},(u32B (l.take 4)).toNat=numB (l.take 4):=fun {l}=>yu32 (by rw [List.length_take];omega)
  have keyN: ∀m:Nat,((kd:Int)==(m:Int))=false->kd≠m:=fun m e h=>by rw [h] at e;simp at e
  refine IfB.intro (fun e1=>?_) fun e1=>IfB.intro (fun e2=>?_) fun e2=>IfB.intro (fun e3=>?_) fun e3=>IfB.intro (fun e4=>?_) fun e4=>IfB.intro (fun e6=>?_) fun e6=>IfB.intro (fun e7=>?_) fun e7=>IfB.intro (fun e8=>?_) fun e8=>IfB.intro (fun e17=>?_) fun e17=>IfB.intro (fun e18=>?_) fun e18=>?_
  ·
    have ek:kd=1:=by have:=eq_of_beq e1;omega
    subst ek;have spec:oneF four 1 d s=if d.length=1∧(d.headD 0).toNat <= 2 then s.put (((d.headD 0).toNat:Int),s.a.path,s.a.next,s.a.hasMed,s.a.med,s.a.hasLocal,s.a.loc,s.a.atomic,s.a.hasMaker,s.a.makerAS,s.a.maker,s.a.comms,s.a.others) else s.found 2:=rfl
    have bad: ¬(d.length=1∧(d.headD 0).toNat <= 2)->Zlt b a n c true H R:=fun hb=>by unfold Zlt;exact ifT rfl (ybad hz0 2 hr0 c0 fun H1=>done _ (by rw [spec,if_neg hb]) H1)
    refine IfB.intro (fun h1=>bad fun hh=>Znh (k:=1) hn h1 hh.1) fun h1=>?_;have hl:=Zmd (k:=1) hn h1;obtain ⟨x,rfl⟩: ∃x,d= [x]:=by
      match d,hl with
      | [x],_=>exact ⟨x,rfl⟩
    obtain ⟨m,o,rfl,hzm,hcell⟩:=Zpf (kHd h.at_.keep) (i:=0) (by simp)
    have hx:=UInt8.toNat_lt x;refine NilP.intro _ rfl (InB.intro 0 rfl (by simp at hn;omega) ?_)
    rw [Zez];refine ⟨_,hcell,?_⟩;show Zlt _ _ _ _ (decide ((x.toNat:Int)>2)) H R;by_cases hg:x.toNat <= 2
    . rw [decide_eq_false (by omega)]
      unfold Zlt;refine ifF rfl (NilP.intro _ rfl (InB.intro 0 rfl (by simp at hn;omega) ?_))
      rw [Zez];refine ⟨_,hcell,?_⟩;show Zb H ⟨b,0,none⟩ (.int .i64 (IntKind.wrap .i64 (x.toNat:Int))) _;rw [Ze (by omega) (by omega)]
      refine h.st 0 (by decide) rfl fun H1 hb1 ho1=>?_
      exact done _ (by rw [spec,if_pos ⟨rfl,hg⟩];rfl) H1 ⟨_,_,_,_,_,_,_,_,_,_,h.turn hz0 ho1 (s':=s.put ((x.toNat:Int),s.a.path,s.a.next,s.a.hasMed,s.a.med,s.a.hasLocal,s.a.loc,s.a.atomic,s.a.hasMaker,s.a.makerAS,s.a.maker,s.a.comms,s.a.others)) hb1 rfl rfl h.at_.path h.seen h.p4 h.m4⟩ (h.calmB ho1)
    . rw [decide_eq_true (by omega)]
      exact bad fun hh=>hg hh.2
  ·
    have ek:kd=2:=by have:=eq_of_beq e2;omega
    subst ek;have spec:oneF four 2 d s=match Zdf four d with
      | some p=>s.put (s.a.origin,p,s.a.next,s.a.hasMed,s.a.med,s.a.hasLocal,s.a.loc,s.a.atomic,s.a.hasMaker,s.a.makerAS,s.a.maker,s.a.comms,s.a.others)
      | none=>s.found 2:=rfl
    refine ⟨four,h.get 270 (by rw [show (270:Nat)=270+0 from rfl,Ziv h.seen.1];rfl),?_⟩
    refine (Zbrw (d:=d) (four:=four) (Zeo hz0 h.at_.keep) (hy.keep h.at_.keep) (kHd h.at_.keep) (by omega)).mono fun v H4 hm=>?_
    obtain ⟨k4,Z1,pp,vq,e,hf,rfl,hpp,hr⟩:=hm;have q4:=h.more hz0 k4 hf;have c4:Zcc H H4:=Zhh k4;have hpp':Za (Or2 Z0 (Or2 Zn Z1)) H4 Zbf pp vq:=Za.ext (fun x hx=>⟨hx.elim .inl fun h=> .inr (.inr h),rfl⟩) _ _ _ hpp;obtain ⟨pa,pn,pc,rfl⟩: ∃pa pn pc,vq= .slice pa pn pc:=by simp only [Za] at hpp;obtain ⟨pa,pn,pc,e,_⟩:=hpp;exact ⟨pa,pn,pc,e⟩
    refine ⟨pa,pn,pc,e,rfl,?_⟩;rcases hr with ⟨hr,rfl⟩ | ⟨hr,rfl,rfl⟩
    . rw [hr] at spec;refine ifF rfl (q4.st 1 (by decide) rfl fun H5 hb5 ho5=>?_)
      exact done _ spec.symm H5 ⟨_,_,_,_,_,_,_,_,_,_,q4.turn hz0 ho5 (s':=s.put (s.a.origin,pp,s.a.next,s.a.hasMed,s.a.med,s.a.hasLocal,s.a.loc,s.a.atomic,s.a.hasMaker,s.a.makerAS,s.a.maker,s.a.comms,s.a.others)) hb5 rfl rfl hpp' q4.seen q4.p4 q4.m4⟩ (c4.trans (q4.calmB ho5))
    rw [hr] at spec;exact ifT rfl (ybad hz0 2 ⟨_,_,_,_,_,_,_,_,_,_,q4⟩ c4 fun H1=>done _ spec.symm H1)
  ·
    have ek:kd=3:=by have:=eq_of_beq e3;omega
    subst ek;have spec:oneF four 3 d s=if d.length=4∧numB d≠0∧numB d<3758096384 then s.put (s.a.origin,s.a.path,u32B d,s.a.hasMed,s.a.med,s.a.hasLocal,s.a.loc,s.a.atomic,s.a.hasMaker,s.a.makerAS,s.a.maker,s.a.comms,s.a.others) else s.found 2:=rfl
    have bad: ∀{H':Heap},Keep Nil H H'->¬(d.length=4∧numB d≠0∧numB d<3758096384)->Znj b a n c true H' R:=fun k hb=>by unfold Znj;exact ifT rfl (ybad hz0 2 ⟨_,_,_,_,_,_,_,_,_,_,h.kept hz0 k⟩ (Zhh k) fun H1=>done _ (by rw [spec,if_neg hb]) H1)
    refine IfB.intro (fun h1=>bad (Keep.refl _ _) fun hh=>Znh (k:=4) hn h1 hh.1) fun h1=>?_;have hl:=Zmd (k:=4) hn h1;have et:d.take 4=d:=List.take_of_length_le (by omega)
    have en:(u32B d).toNat=numB d:=yu32 (by omega)
    refine (getd h.at_.keep (by omega)).mono fun v H5 hm=>?_
    obtain ⟨k5,rfl⟩:=hm;rw [et];have x5:=h.kept hz0 k5;refine ⟨_,rfl,IfB.intro (fun h0=>bad k5 fun hh=>hh.2.1 (by have:=eq_of_beq h0;omega)) fun h0=>?_⟩
    have h0:numB d≠0:=fun e=>by rw [en,e] at h0;simp at h0
    refine (getd x5.at_.keep (by omega)).mono fun v H6 hm=>?_
    obtain ⟨k6,rfl⟩:=hm;rw [et];have x6:=x5.kept hz0 k6;refine ⟨_,rfl,?_⟩;by_cases hg:numB d<3758096384
    . rw [decide_eq_false (by omega)]
      unfold Znj;refine ifF rfl ((getd x6.at_.keep (by omega)).mono fun v H7 hm=>?_)
      obtain ⟨k7,rfl⟩:=hm;rw [et];have x7:=x6.kept hz0 k7;refine ⟨_,rfl,x7.st 2 (by decide) rfl fun H8 hb8 ho8=>?_⟩
      exact done _ (by rw [spec,if_pos ⟨hl,h0,hg⟩]) H8 ⟨_,_,_,_,_,_,_,_,_,_,x7.turn hz0 ho8 (s':=s.put (s.a.origin,s.a.path,u32B d,s.a.hasMed,s.a.med,s.a.hasLocal,s.a.loc,s.a.atomic,s.a.hasMaker,s.a.makerAS,s.a.maker,s.a.comms,s.a.others)) hb8 rfl rfl x7.at_.path x7.seen x7.p4 x7.m4⟩ ((Zhh ((k5.trans k6).trans k7)).trans (x7.calmB ho8))
    . rw [decide_eq_true (by omega)]
      exact bad (k5.trans k6) fun hh=>hg hh.2.2
  ·
    have ek:kd=4:=by have:=eq_of_beq e4;omega
    subst ek;have spec:oneF four 4 d s=if d.length=4 then s.put (s.a.origin,s.a.path,s.a.next,true,u32B d,s.a.hasLocal,s.a.loc,s.a.atomic,s.a.hasMaker,s.a.makerAS,s.a.maker,s.a.comms,s.a.others) else s.found 2:=rfl
    refine IfB.intro (fun h1=>ybad hz0 2 hr0 c0 fun H1=>done _ (by rw [spec,if_neg (Znh (k:=4) hn h1)]) H1) fun h1=>?_
    have hl:=Zmd (k:=4) hn h1;have et:d.take 4=d:=List.take_of_length_le (by omega)
    refine (getd h.at_.keep (by omega)).mono fun v H5 hm=>?_
    obtain ⟨k5,rfl⟩:=hm;rw [et];have x5:=h.kept hz0 k5;refine ⟨_,rfl,stB x5.blk 3 (by rw [Zfk h.seen.1];decide) rfl fun H6 b6 o6=>stB b6 4 (by rw [List.length_set,Zfk h.seen.1];decide) rfl fun H7 b7 o7=>?_⟩
    have o7': ∀x,x≠b->H7 x=H5 x:=fun x hx=>(o7 x hx).trans (o6 x hx);exact done _ (by rw [spec,if_pos hl]) H7 ⟨_,_,_,_,_,_,_,_,_,_,x5.turn hz0 o7' (s':=s.put (s.a.origin,s.a.path,s.a.next,true,u32B d,s.a.hasLocal,s.a.loc,s.a.atomic,s.a.hasMaker,s.a.makerAS,s.a.maker,s.a.comms,s.a.others)) b7 rfl rfl x5.at_.path x5.seen x5.p4 x5.m4⟩ ((Zhh k5).trans (x5.calmB o7'))
  ·
    have ek:kd=6:=by have:=eq_of_beq e6;omega
    subst ek;have spec:oneF four 6 d s=if d.length=0 then s.put (s.a.origin,s.a.path,s.a.next,s.a.hasMed,s.a.med,s.a.hasLocal,s.a.loc,true,s.a.hasMaker,s.a.makerAS,s.a.maker,s.a.comms,s.a.others) else s.found 1:=rfl
    refine IfB.intro (fun h1=>ybad hz0 1 hr0 c0 fun H1=>done _ (by rw [spec,if_neg (Znh (k:=0) hn h1)]) H1) fun h1=>?_
    have hl:=Zmd (k:=0) hn h1;refine h.st 7 (by decide) rfl fun H6 b6 o6=>?_
    exact done _ (by rw [spec,if_pos hl]) H6 ⟨_,_,_,_,_,_,_,_,_,_,h.turn hz0 o6 (s':=s.put (s.a.origin,s.a.path,s.a.next,s.a.hasMed,s.a.med,s.a.hasLocal,s.a.loc,true,s.a.hasMaker,s.a.makerAS,s.a.maker,s.a.comms,s.a.others)) b6 rfl rfl h.at_.path h.seen h.p4 h.m4⟩ (h.calmB o6)
  ·
    have ek:kd=7:=by have:=eq_of_beq e7;omega
    subst ek;have spec:oneF four 7 d s=if d.length=Zee four+4∧numB (d.take (Zee four))≠0 then s.put (s.a.origin,s.a.path,s.a.next,s.a.hasMed,s.a.med,s.a.hasLocal,s.a.loc,s.a.atomic,true,u32B (d.take (Zee four)),u32B (d.drop (Zee four)),s.a.comms,s.a.others) else s.found 1:=rfl
    refine ⟨four,h.get 270 (by rw [show (270:Nat)=270+0 from rfl,Ziv h.seen.1];rfl),?_⟩
    have core: ∀size:Nat,size=Zee four->(size=4∨size=2)->Zxk b a n c (size:Int) H R:=fun size hs h42=>by
      rw [← hs] at spec;unfold Zxk;rw [Ze (by omega) (by omega)]
      refine IfB.intro (fun h1=>ybad hz0 1 hr0 c0 fun H1=>done _ (by rw [spec,if_neg fun hh=>Znh (k:=size+4) hn (by exact_mod_cast h1) hh.1]) H1) fun h1=>?_
      have hl:d.length=size+4:=Zmd (k:=size+4) hn (by exact_mod_cast h1)
      refine Zqi fun m H1 hm1 k1 c1 b1=>InC.intro size rfl (by omega) ?_
      have dt:Za Z0 H Zp (d.take size) (.slice a size c):=Zbej (kHd h.at_.keep) (by omega)
      have htl:(d.take size).length=size:=by rw [List.length_take];omega
      refine Zbjm (e:=[0,0,0,0]) (d:=d.take size) (Zeo hz0 h.at_.keep) k1 hm1 b1 dt (by omega) (by decide) fun xa xc H2 Z1 k2 hf2 hv2=>?_
      have x2:=h.more hz0 k2 hf2;have e42:([0,0,0,0]:List UInt8).length=4:=rfl;rw [htl,e42] at hv2 ⊢;refine ⟨xa,_,xc,rfl,InC.intro size rfl (by omega) ?_⟩
      refine (Zbbu (d:=(([0,0,0,0]:List UInt8)++d.take size).drop size) (fun x hx=>?_) (hy.keep x2.at_.keep) (Zkn hv2 (by rw [List.length_append,htl];show size <= 4+size;omega)) (by rw [List.length_drop,List.length_append,htl];show 4 <= 4+size - size;omega)).mono fun v H3 hm=>?_
      exact hx.elim (fun hx=>k2.live x (h.at_.keep.live x (hz0 x hx))) fun hx=>(hf2 x hx).2.1;obtain ⟨k3,rfl⟩:=hm;have x3:=x2.kept hz0 k3;have k03:Keep Nil H H3:=k2.trans k3;have eN:u32B (((([0,0,0,0]:List UInt8)++d.take size).drop size).take 4)=u32B (d.take size):=by
        rw [List.take_of_length_le (by rw [List.length_drop,List.length_append,htl];show 4+size - size <= 4;omega)]
        unfold u32B;congr 1;rcases h42 with rfl | rfl;rfl;show numB (0::0::d.take 2)=_;rw [Zbqx,Zbqx]
      have eT:(u32B (d.take size)).toNat=numB (d.take size):=yu32 (by omega)
      rw [eN];refine ⟨_,rfl,IfB.intro (fun h0=>ybad hz0 1 ⟨_,_,_,_,_,_,_,_,_,_,x3⟩ (Zhh k03) fun H1=>done _ (by rw [spec,if_neg fun hh=>hh.2 (by have:=eq_of_beq h0;omega)]) H1) fun h0=>?_⟩
      have h0:numB (d.take size)≠0:=fun e=>by rw [eT,e] at h0;simp at h0
      refine InC.intro size rfl (by omega) ((getk size x3.at_.keep (by omega)).mono fun v H4 hm=>?_)
      obtain ⟨k4,rfl⟩:=hm;rw [List.take_of_length_le (show (d.drop size).length <= 4 by rw [List.length_drop];omega)]
      have x4:=x3.kept hz0 k4;refine ⟨_,rfl,stB x4.blk 8 (by rw [Zfk h.seen.1];decide) rfl fun H6 b6 o6=>stB b6 9 (by rw [List.length_set,Zfk h.seen.1];decide) rfl fun H7 b7 o7=>stB b7 10 (by rw [List.length_set,List.length_set,Zfk h.seen.1];decide) rfl fun H8 b8 o8=>?_⟩
      have o': ∀x,x≠b->H8 x=H4 x:=fun x hx=>(o8 x hx).trans ((o7 x hx).trans (o6 x hx));exact done _ (by rw [spec,if_pos ⟨hl,h0⟩]) H8 ⟨_,_,_,_,_,_,_,_,_,_,x4.turn hz0 o' (s':=s.put (s.a.origin,s.a.path,s.a.next,s.a.hasMed,s.a.med,s.a.hasLocal,s.a.loc,s.a.atomic,true,u32B (d.take size),u32B (d.drop size),s.a.comms,s.a.others)) b8 rfl rfl x4.at_.path x4.seen x4.p4 x4.m4⟩ ((Zhh (k03.trans k4)).trans (x4.calmB o'))
    cases four with
    | true=>exact ifT rfl (core 4 rfl (.inl rfl))
    | false=>exact ifF rfl (core 2 rfl (.inr rfl))
  ·
    have ek:kd=8:=by have:=eq_of_beq e8;omega
    subst ek;have hcm:=hcm rfl;have spec:oneF four 8 d s=if d.length≠0∧d.length%4=0∧d.length/4 <= 32 then Zbu s (decN 4 (d.length/4) d) else s.found 2:=rfl
    have bad: ¬(d.length≠0∧d.length%4=0∧d.length/4 <= 32)->Zlq b a n c true H R:=fun hb=>by unfold Zlq;exact ifT rfl (ybad hz0 2 hr0 c0 fun H1=>done _ (by rw [spec,if_neg hb]) H1)
    have em:Int.tmod (n:Int) 4=((n%4:Nat):Int):=by
      rw [Int.tmod_eq_emod_of_nonneg (by omega)];omega
    have ed:IntKind.wrap .i64 (Int.tdiv (n:Int) 4)=((n/4:Nat):Int):=by
      rw [Int.tdiv_eq_ediv_of_nonneg (by omega)]
      rw [Ze]<;>omega
    refine IfB.intro (fun h0=>bad fun hf=>hf.1 (by have:=eq_of_beq h0;omega)) fun h0=>⟨by decide,?_⟩
    rw [em];refine IfB.intro (fun h3=>bad fun hf=>?_) fun h3=>⟨by decide,?_⟩
    have hf:=hf.2.1;rw [← hn] at hf;rw [hf] at h3;simp at h3;rw [ed];have h0:d.length≠0:=fun e=>by rw [hn,e] at h0;simp at h0
    have h3:d.length%4=0:=by simp at h3;omega
    by_cases h5:d.length/4 <= 32
    . rw [decide_eq_false (by omega)]
      rw [if_pos ⟨h0,h3,h5⟩] at spec;unfold Zlq;refine ifF rfl ?_;have w0:Zbu s []=s:=by show s.put (s.a.origin,s.a.path,s.a.next,s.a.hasMed,s.a.med,s.a.hasLocal,s.a.loc,s.a.atomic,s.a.hasMaker,s.a.makerAS,s.a.maker,s.a.comms++[],s.a.others)=s;rw [List.append_nil];rfl
      refine ⟨fun k x Hx=>∃(i:Nat) (ca:Option Addr) (cc:Nat),i <= d.length/4∧k=d.length/4 - i∧x=(((4*i:Nat):Int),())∧RyX Z0 H0 Hx b four Zn vp ca cc oa oc seen v4 vm h4 (Zbu s (decN 4 i d))∧Zcc H Hx,d.length/4,⟨0,ca,cc,Nat.zero_le _,rfl,rfl,by show RyX _ _ _ _ _ _ _ _ _ _ _ _ _ _ _ (Zbu s []);rw [w0];exact h,c0⟩,?_⟩
      rintro k x Hx ⟨i,ca,cc,hi,rfl,rfl,q,cq⟩ gE;dsimp only;unfold Zbqn;refine IfB.intro (fun h1=>?_) fun h1=>?_
      . have h1:4*i<n:=by have:=of_decide_eq_true h1;omega
        have hil:(decN 4 i d).length=i:=Zkp _ _ _;have g11:=q.get 11 (v:= .slice ca (s.a.comms.length+(decN 4 i d).length) cc) (by
          show some (Value.slice ca (s.a.comms++decN 4 i d).length cc)=_;rw [List.length_append])
        refine ⟨[b],fun y hym=>by rw [List.mem_singleton] at hym;subst hym;exact Option.ne_none_iff_exists'.1 q.blk.some,by simp,ca,_,cc,g11,InC.intro (4*i) rfl (by omega) ?_⟩
        refine (getk (4*i) q.at_.keep (by omega)).mono fun v H2 hm=>?_
        obtain ⟨k2,rfl⟩:=hm;have q2:=q.kept hz0 k2;refine ⟨_,rfl,Zbhj q.blk.some k2,Zqi fun xb H3 hxb k3 c3 b3=>?_⟩;have q3:=q2.kept hz0 k3;refine q3.grow hz0 (by omega) (u32B ((d.drop (4*i)).take 4)) b3 fun ca' cc' H4 kk hn4 hst=>?_
        refine ⟨ca',_,cc',rfl,fun y hym=>?_,hst _ fun H5 q5 o5=>?_⟩;rw [List.mem_singleton] at hym;subst hym;exact ⟨Option.ne_none_iff_exists'.1 q.blk.some,(kk.same _ q3.blkC q3.blk.some).trans ((k2.trans k3).same _ (fun h=>h) q.blk.some)⟩
        . have ei:IntKind.wrap .i64 (((4*i:Nat):Int)+4)=((4*(i+1):Nat):Int):=by
            rw [Ze (by omega) (by omega)];omega
          rw [ei];refine ⟨d.length/4 - (i+1),by omega,i+1,ca',cc',by omega,rfl,rfl,?_,?_⟩
          have e:=Zbdx 4 i d;rw [Nat.mul_comm i 4] at e;rw [e];exact q5;refine (cq.trans (Zhh (k2.trans k3))).trans ((Zbwf kk fun y hy1=>?_).trans fun y T cx hb' t1 t2 t3=>?_);obtain ⟨cx,hcx⟩:=q3.at_.liveC y hy1;exact ⟨_,cx,hcx,.inr (.inl rfl)⟩;refine hb'.same (o5 y fun e=>?_);subst e;have h1:=kk.blk q3.blk q3.blkC;unfold Blk at h1 hb';rw [h1] at hb';cases hb';exact t1 rfl
      . have h1:d.length/4=i:=by have:=of_decide_eq_false h1;omega
        subst h1;exact done _ spec.symm Hx ⟨_,_,_,_,_,_,_,_,_,_,q⟩ cq
    . rw [decide_eq_true (by omega)]
      exact bad fun hh=>h5 hh.2.2
  ·
    have ek:kd=17:=by have:=eq_of_beq e17;omega
    subst ek;have spec:oneF four 17 d s=if four then s else match Zdf true d with | some p=>⟨s.a,s.worst,s.seen,some p,s.m4⟩ | none=>s.found 1:=rfl
    refine ⟨four,h.get 270 (by rw [show (270:Nat)=270+0 from rfl,Ziv h.seen.1];rfl),?_⟩
    cases four with
    | true=>exact ifT rfl (done _ (by rw [spec,if_pos rfl]) H hr0 c0)
    | false=>
      rw [if_neg (by simp)] at spec
      refine ifF rfl ((Zbrw (d:=d) (four:=true) (Zeo hz0 h.at_.keep) (hy.keep h.at_.keep) (kHd h.at_.keep) (by omega)).mono fun v H4 hm=>?_)
      obtain ⟨k4,Z1,pp,vq,e,hf,rfl,hpp,hr⟩:=hm;have q4:=h.more hz0 k4 hf;have c4:Zcc H H4:=Zhh k4;have hpp':Za (Or2 Z0 (Or2 Zn Z1)) H4 Zbf pp vq:=Za.ext (fun x hx=>⟨hx.elim .inl fun h=> .inr (.inr h),rfl⟩) _ _ _ hpp;obtain ⟨pa,pn,pc,rfl⟩: ∃pa pn pc,vq= .slice pa pn pc:=by simp only [Za] at hpp;obtain ⟨pa,pn,pc,e,_⟩:=hpp;exact ⟨pa,pn,pc,e⟩
      refine ⟨pa,pn,pc,e,rfl,?_⟩;rcases hr with ⟨hr,rfl⟩ | ⟨hr,rfl,rfl⟩
      . rw [hr] at spec;refine ifF rfl (stB q4.blk 271 (by rw [Zfk h.seen.1];decide) rfl fun H5 b5 o5=>stB b5 272 (by rw [List.length_set,Zfk h.seen.1];decide) rfl fun H6 b6 o6=>?_)
        have o': ∀x,x≠b->H6 x=H4 x:=fun x hx=>(o6 x hx).trans (o5 x hx);have eb:((Zbr s false vp ca cc oa oc seen v4 vm h4).set 271 (.bool true)).set 272 (.slice pa pn pc)=Zbr ⟨s.a,s.worst,s.seen,some pp,s.m4⟩ false vp ca cc oa oc seen (.slice pa pn pc) vm true:=by
          have e1:=Zpo (s:=s) (four:=false) (vp:=vp) (ca:=ca) (cc:=cc) (oa:=oa) (oc:=oc) (v4:=v4) (vm:=vm) (h4:=h4) h.seen.1 1 (.bool true);have e2:=Zpo (s:=s) (four:=false) (vp:=vp) (ca:=ca) (cc:=cc) (oa:=oa) (oc:=oc) (v4:=v4) (vm:=vm) (h4:=true) h.seen.1 2 (.slice pa pn pc);rw [show (271:Nat)=270+1 from rfl,e1,show (272:Nat)=270+2 from rfl]
          exact e2
        rw [eb] at b6;exact done _ spec.symm H6 ⟨_,_,_,_,_,_,_,_,_,_,q4.turn hz0 o' (s':=⟨s.a,s.worst,s.seen,some pp,s.m4⟩) b6 rfl rfl q4.at_.path q4.seen ⟨rfl,hpp'⟩ q4.m4⟩ (c4.trans (q4.calmB o'))
      rw [hr] at spec;exact ifT rfl (ybad hz0 1 ⟨_,_,_,_,_,_,_,_,_,_,q4⟩ c4 fun H1=>done _ spec.symm H1)
  ·
    have ek:kd=18:=by have:=eq_of_beq e18;omega
    subst ek;have spec:oneF four 18 d s=if four then s else if d.length=8∧numB (d.take 4)≠0 then ⟨s.a,s.worst,s.seen,s.p4,some (u32B (d.take 4),u32B (d.drop 4))⟩ else s.found 1:=rfl
    refine ⟨four,h.get 270 (by rw [show (270:Nat)=270+0 from rfl,Ziv h.seen.1];rfl),?_⟩
    cases four with
    | true=>exact ifT rfl (done _ (by rw [spec,if_pos rfl]) H hr0 c0)
    | false=>
      rw [if_neg (by simp)] at spec
      have bad: ∀{H':Heap},Keep Nil H H'->¬(d.length=8∧numB (d.take 4)≠0)->Zrc b a n c true H' R:=fun k hb=>by unfold Zrc;exact ifT rfl (ybad hz0 1 ⟨_,_,_,_,_,_,_,_,_,_,h.kept hz0 k⟩ (Zhh k) fun H1=>done _ (by rw [spec,if_neg hb]) H1)
      refine ifF rfl (IfB.intro (fun h1=>bad (Keep.refl _ _) fun hh=>Znh (k:=8) hn h1 hh.1) fun h1=>?_);have hl:=Zmd (k:=8) hn h1;refine (getd h.at_.keep (by omega)).mono fun v H5 hm=>?_
      obtain ⟨k5,rfl⟩:=hm;have x5:=h.kept hz0 k5;refine ⟨_,rfl,?_⟩;have en:(u32B (d.take 4)).toNat=numB (d.take 4):=tk4;by_cases h0:numB (d.take 4)=0
      . rw [show (((u32B (d.take 4)).toNat:Int)==0)=true from by rw [en,h0];rfl]
        exact bad k5 fun hh=>hh.2 h0
      . rw [show (((u32B (d.take 4)).toNat:Int)==0)=false from by rw [en];exact beq_eq_false_iff_ne.2 (by omega)]
        unfold Zrc;refine ifF rfl (InC.intro 4 rfl (by omega) ((getd x5.at_.keep (by omega)).mono fun v H6 hm=>?_))
        obtain ⟨k6,rfl⟩:=hm;have x6:=x5.kept hz0 k6;refine ⟨_,rfl,(getk 4 x6.at_.keep (by omega)).mono fun v H7 hm=>?_⟩
        obtain ⟨k7,rfl⟩:=hm;rw [List.take_of_length_le (show (d.drop 4).length <= 4 by rw [List.length_drop];omega)]
        have x7:=x6.kept hz0 k7;refine ⟨_,rfl,stB x7.blk 273 (by rw [Zfk h.seen.1];decide) rfl fun H8 b8 o8=>stB b8 274 (by rw [List.length_set,Zfk h.seen.1];decide) rfl fun H9 b9 o9=>stB b9 275 (by rw [List.length_set,List.length_set,Zfk h.seen.1];decide) rfl fun H10 b10 o10=>?_⟩
        have o': ∀x,x≠b->H10 x=H7 x:=fun x hx=>(o10 x hx).trans ((o9 x hx).trans (o8 x hx));have eb:(((Zbr s false vp ca cc oa oc seen v4 vm h4).set 273 (.bool true)).set 274 (.int .u32 ((u32B (d.take 4)).toNat:Int))).set 275 (.int .u32 ((u32B (d.drop 4)).toNat:Int))=Zbr ⟨s.a,s.worst,s.seen,s.p4,some (u32B (d.take 4),u32B (d.drop 4))⟩ false vp ca cc oa oc seen v4 (true,u32B (d.take 4),u32B (d.drop 4)) h4:=by
          have e1:=Zpo (s:=s) (four:=false) (vp:=vp) (ca:=ca) (cc:=cc) (oa:=oa) (oc:=oc) (v4:=v4) (vm:=vm) (h4:=h4) h.seen.1 3 (.bool true);have e2:=Zpo (s:=s) (four:=false) (vp:=vp) (ca:=ca) (cc:=cc) (oa:=oa) (oc:=oc) (v4:=v4) (vm:=(true,vm.2)) (h4:=h4) h.seen.1 4 (.int .u32 ((u32B (d.take 4)).toNat:Int));have e3:=Zpo (s:=s) (four:=false) (vp:=vp) (ca:=ca) (cc:=cc) (oa:=oa) (oc:=oc) (v4:=v4) (vm:=(true,u32B (d.take 4),vm.2.2)) (h4:=h4) h.seen.1 5 (.int .u32 ((u32B (d.drop 4)).toNat:Int));rw [show (273:Nat)=270+3 from rfl,e1,show (274:Nat)=270+4 from rfl,show (275:Nat)=270+5 from rfl]
          exact (congrArg (fun l=>List.set l (270+5) _) e2).trans e3
        rw [eb] at b10;exact done _ (by rw [spec,if_pos ⟨hl,h0⟩]) H10 ⟨_,_,_,_,_,_,_,_,_,_,x7.turn hz0 o' (s':=⟨s.a,s.worst,s.seen,s.p4,some (u32B (d.take 4),u32B (d.drop 4))⟩) b10 rfl rfl x7.at_.path x7.seen x7.p4 rfl⟩ ((Zhh ((k5.trans k6).trans k7)).trans (x7.calmB o'))
  ·
    have g1:=keyN 1 e1;have g2:=keyN 2 e2;have g3:=keyN 3 e3;have g4:=keyN 4 e4;have g6:=keyN 6 e6;have g7:=keyN 7 e7;have g8:=keyN 8 e8;have g17:=keyN 17 e17;have g18:=keyN 18 e18;refine done s ?_ H hr0 c0;unfold oneF;simp only [if_neg g1,if_neg g2,if_neg g3,if_neg g4,if_neg g6,if_neg g7,if_neg g8,if_neg g17,if_neg g18]
end Go.Proofs.YthdffaojeghaeaaGreatDoor
end
section
set_option maxRecDepth 100000
namespace Go.Proofs.YthdffaojeghaeaaGreatDoor
open Go.Sh
abbrev kU32:Kd:= .lst [.int .u32]
abbrev Zct:List Kd:=[.bool,.lst [.int .u32]]
theorem Zlh {H:Heap} {l:List Value} {T:TypeId} {k:Nat->Heap->Prop} (h: ∀n H1,H n=none->Keep Nil H H1->Blk H1 n T ⟨l⟩->k n H1):NewW H (Obj.cells ⟨l⟩ T) k:=NewW.intro fun n hn=>h n _ hn ((Keep.refl _ _).new hn) Blk.upd_eq
theorem row_of {T:TypeId} {s b:Nat} (h:(Tryz.prog.info? T).map (fun i=>(i.size,i.bytes))=some (s,b)): ∃it,Tryz.prog.info? T=some it∧it.size=s∧it.bytes=b:=by
  cases hi:Tryz.prog.info? T with
  | none=>rw [hi] at h;cases h
  | some i=>rw [hi] at h;simp only [Option.map_some,Option.some.injEq,Prod.mk.injEq] at h;exact ⟨i,rfl,h.1,h.2⟩
theorem Zblw: ∃it,Tryz.prog.info? Zbk=some it∧it.size=2∧it.bytes=32:=row_of (by kernel_rfl)
def NewZ (H H':Heap) (Z:Nat->Prop) (Ts:List TypeId):Prop:=∀m,Z m->H m=none∧∃T c,Blk H' m T c∧T∈Ts
theorem NewZ.fresh {H H':Heap} {Z:Nat->Prop} {Ts:List TypeId} (h:NewZ H H' Z Ts):Zbi H H' Z:=fun m hm=>by obtain ⟨h1,T,c,h2,_⟩:=h m hm;refine ⟨h1,h2.some,fun ds e=>?_⟩;unfold Blk at h2;rw [h2] at e;cases e
theorem NewZ.live {H H':Heap} {Z:Nat->Prop} {Ts:List TypeId} (h:NewZ H H' Z Ts): ∀m,Z m->H' m≠none:=fun m hm=>(h.fresh m hm).2.1
theorem NewZ.keep {H H' H'':Heap} {Z S:Nat->Prop} {Ts:List TypeId} (h:NewZ H H' Z Ts) (k:Keep S H' H'') (hs: ∀m,Z m->¬S m):NewZ H H'' Z Ts:=fun m hm=>by obtain ⟨h1,T,c,h2,h3⟩:=h m hm;exact ⟨h1,T,c,k.blk h2 (hs m hm),h3⟩
theorem NewZ.shut {H H' H'' H0:Heap} {Z:Nat->Prop} {Ts:List TypeId} (h:NewZ H H' Z Ts) (k:Shut H0 H' H''):NewZ H H'' Z Ts:=fun m hm=>by obtain ⟨h1,T,c,h2,h3⟩:=h m hm;exact ⟨h1,T,c,Zhg h2 k,h3⟩
theorem NewZ.early {S:Nat->Prop} {H0 H H':Heap} {Z:Nat->Prop} {Ts:List TypeId} (h:NewZ H H' Z Ts) (k:Keep S H0 H):NewZ H0 H' Z Ts:=fun m hm=>by obtain ⟨h1,h2⟩:=h m hm;exact ⟨k.free h1,h2⟩
theorem NewZ.mono {H H':Heap} {Z:Nat->Prop} {Ts Ts':List TypeId} (h:NewZ H H' Z Ts) (ht: ∀T∈Ts,T∈Ts'):NewZ H H' Z Ts':=fun m hm=>by obtain ⟨h1,T,c,h2,h3⟩:=h m hm;exact ⟨h1,T,c,h2,ht T h3⟩
theorem NewZ.both {H H':Heap} {Z Z':Nat->Prop} {Ts:List TypeId} (h:NewZ H H' Z Ts) (h':NewZ H H' Z' Ts):NewZ H H' (fun m=>Z m∨Z' m) Ts:=fun m hm=>hm.elim (h m) (h' m)
theorem NewZ.own {H H':Heap} {a:Option Addr} {n cap sz:Nat} {T:TypeId} {xs:List Value} (h:Sh.Own H H' a n cap sz T xs):NewZ H H' (fun m=>a=some ⟨m,0,none⟩) [T]:=fun m hm=>by obtain ⟨c,hc⟩:=h.live hm;exact ⟨h.free hm,T,c,hc,List.mem_singleton_self _⟩
theorem NewZ.none {H H':Heap} {Ts:List TypeId}:NewZ H H' (fun _=>False) Ts:=fun _ h=>h.elim
theorem scal {k:IntKind} {Z Z':Nat->Prop} {H H':Heap} {r:Tp [.int k]} {f:Nat->Option Value} (h:Zd Z H [.int k] r f):Zd Z' H' [.int k] r f:=by simp only [Zd,Za] at h ⊢;exact h
theorem Zry {Z:Nat->Prop} {H:Heap} {ks:List Kd} {xs:List (Tp ks)} {a:Option Addr} {n c:Nat} (h:Za Z H (.lst ks) xs (.slice a n c)):n=xs.length∧n <= c∧c <= Zj:=by simp only [Za] at h;obtain ⟨a',n',c',e,h1,h2,h3,_⟩:=h;cases e;exact ⟨h1.symm,h2,h3⟩
theorem Zow {Z:Nat->Prop} {H:Heap} {ks:List Kd} {xs:El (.lst ks)} {v:Value} (h:Za Z H (.lst ks) xs v): ∃a n c,v= .slice a n c:=by simp only [Za] at h;obtain ⟨a,n,c,rfl,_⟩:=h;exact ⟨a,n,c,rfl⟩
theorem Zcva {Z:Nat->Prop} {H:Heap} {k1 k2:Kd} {xs:List (Tp [k1,k2])} {a:Option Addr} {n c:Nat} (h:Za Z H (.lst [k1,k2]) xs (.slice a n c)) {i:Nat} {x:Tp [k1,k2]} (hx:xs[i]? =some x):
    ∃b o v w,a=some ⟨b,o,none⟩∧Z b∧H.cell ⟨b,o+i*2,none⟩=some v∧Za Z H k1 (hdT [k2] x) v∧H.cell ⟨b,o+i*2+1,none⟩=some w∧Za Z H k2 (hdT [] (tlT [k2] x)) w:=by
  have hi:i<xs.length:=(List.getElem?_eq_some_iff.1 hx).1;obtain ⟨rfl,_,_⟩:=Zry h;simp only [Za] at h;obtain ⟨a',n',c',e,_,_,_,h5⟩:=h;cases e;obtain ⟨b,o,rfl,hz,cs,T,fr,hb,hc⟩:=h5 (by omega)
  have:=hc i x hx;simp only [Zd,and_true] at this;obtain ⟨⟨v,h1,h2⟩,w,h3,h4⟩:=this;refine ⟨b,o,v,w,rfl,hz,?_,h2,?_,h4⟩;simp only [Heap.cell,hb];exact h1;simp only [Heap.cell,hb];exact h3
theorem Zbsl {Z:Nat->Prop} {H:Heap} {p:List Seg} {a:Option Addr} {n c:Nat} (h:Za Z H Zbf p (.slice a n c)) {i:Nat} {x:Seg} (hx:p[i]? =some x):
    ∃b o sa sn sc,a=some ⟨b,o,none⟩∧Z b∧H b≠none∧H.cell ⟨b,o+i*2,none⟩=some (.bool x.1)∧H.cell ⟨b,o+i*2+1,none⟩=some (.slice sa sn sc)∧Za Z H kU32 x.2 (.slice sa sn sc):=by
  obtain ⟨b,o,v,w,rfl,hz,h1,h2,h3,h4⟩:=Zcva (k1:= .bool) (k2:=kU32) (xs:=p) h (i:=i) (x:=x) hx;have h2:v= .bool x.1:=by simp only [Za] at h2;exact h2
  subst h2;have h4:Za Z H kU32 x.2 w:=h4;obtain ⟨sa,sn,sc,rfl⟩:=Zow h4;refine ⟨b,o,sa,sn,sc,rfl,hz,fun e=>?_,h1,h3,h4⟩;simp [Heap.cell,e] at h1
theorem Zcmn {Z:Nat->Prop} {H:Heap} {k1 k2:Kd} {xs:List (Tp [k1,k2])} {new:List Value} {x:Tp [k1,k2]} {v w:Value} (hl:new.length=xs.length*2) (h: ∀i r,xs[i]? =some r->Zd Z H [k1,k2] r (fun j=>new[i*2+j]?)) (hv:Za Z H k1 (hdT [k2] x) v) (hw:Za Z H k2 (hdT [] (tlT [k2] x)) w):
    ∀i r,(xs++[x])[i]? =some r->Zd Z H [k1,k2] r (fun j=>(new++[v,w])[i*2+j]?):=by
  intro i r hr;have hi:i<xs.length+1:=by have:=(List.getElem?_eq_some_iff.1 hr).1;simpa using this
  rcases Nat.lt_or_ge i xs.length with h1 | h1
  . rw [List.getElem?_append_left h1] at hr;refine Zd.congr (fun j hj=>?_) (h i r hr);have hj:j<2:=hj;show (new++[v,w])[i*2+j]? =new[i*2+j]?
    rw [List.getElem?_append_left (by omega)]
  . have:i=xs.length:=by omega
    subst this;rw [List.getElem?_append_right (Nat.le_refl _)] at hr;simp only [Nat.sub_self,List.getElem?_cons_zero,Option.some.injEq] at hr;subst hr;simp only [Zd,and_true];refine ⟨⟨v,?_,hv⟩,w,?_,hw⟩
    . rw [Nat.add_zero,List.getElem?_append_right (by omega),← hl,Nat.sub_self];rfl
    . rw [List.getElem?_append_right (by omega),show xs.length*2+(0+1) - new.length=1 by omega];rfl
abbrev v32 (l:List UInt32):List Value:=l.map fun x=>Value.int .u32 (x.toNat:Int)
abbrev OkS (Z:Nat->Prop) (H:Heap) (p:List Seg) (xs:List Value):Prop:=∀(i:Nat) (r:Tp Zct),(p:List (Tp Zct))[i]? =some r->Zd Z H Zct r (fun j=>xs[i*2+j]?)
theorem OkS.ext {Z Z':Nat->Prop} {H H':Heap} {p:List Seg} {xs:List Value} (h:OkS Z H p xs) (hz: ∀b,Z b->Z' b∧H' b=H b):OkS Z' H' p xs:=fun i r hr=>Zd.ext hz _ _ _ (h i r hr)
structure SR (H0 H:Heap) (Z:Nat->Prop) (a:Option Addr) (c:Nat) (p:List Seg) (xs:List Value):Prop where
  own:Sh.Own H0 H a p.length c 2 Zbk xs
  ok:OkS Z H p xs
  new:NewZ H0 H Z [Zba]
  cap:c <= Zj
  keep:Keep Nil H0 H
structure SL (H0 H:Heap) (Z:Nat->Prop) (a:Option Addr) (c:Nat) (p:List Seg) (xs:List Value) (b:Bool) (l:List UInt32) (la:Option Addr) (lc:Nat):Prop where
  own:Sh.Own H0 H a (p.length+1) c 2 Zbk (xs++[.bool b,.slice la l.length lc])
  ok:OkS Z H p xs
  new:NewZ H0 H Z [Zba]
  cap:c <= Zj
  keep:Keep Nil H0 H
  xl:xs.length=p.length*2
  last:Sh.Own H0 H la l.length lc 1 Zba (v32 l)
  lz: ∀m,la=some ⟨m,0,none⟩->¬Z m
  lcap:lc <= Zj
section
variable {H0 H:Heap} {Z:Nat->Prop} {a:Option Addr} {c:Nat} {p:List Seg} {xs:List Value} {b:Bool} {l:List UInt32} {la:Option Addr} {lc:Nat}
theorem SR.start {m:Nat} (h0:H0 m=none) (hb:Blk H m Zbk ⟨[]⟩) (k:Keep Nil H0 H):SR H0 H (fun _=>False) (some ⟨m,0,none⟩) 0 [] []:=⟨Own.start h0 hb,fun i r h=>by simp at h,NewZ.none,by decide,k⟩
theorem SR.notZ (h:SR H0 H Z a c p xs) {m:Nat} (hm:a=some ⟨m,0,none⟩): ¬Z m:=fun hz=>by obtain ⟨_,T,q,hb,hT⟩:=h.new m hz;obtain ⟨q',hb'⟩:=h.own.live hm;exact absurd (Zhs hb hb'▸hT) (by decide)
theorem SL.notZ (h:SL H0 H Z a c p xs b l la lc) {m:Nat} (hm:a=some ⟨m,0,none⟩): ¬Z m:=fun hz=>by obtain ⟨_,T,q,hb,hT⟩:=h.new m hz;obtain ⟨q',hb'⟩:=h.own.live hm;exact absurd (Zhs hb hb'▸hT) (by decide)
theorem SL.ne (h:SL H0 H Z a c p xs b l la lc) {m:Nat} (hm:a=some ⟨m,0,none⟩):la≠some ⟨m,0,none⟩:=fun hz=>by obtain ⟨q,hb⟩:=h.last.live hz;obtain ⟨q',hb'⟩:=h.own.live hm;exact absurd (Zhs hb hb') (by decide)
theorem SR.step (h:SR H0 H Z a c p xs) {S:Nat->Prop} {H':Heap} (k:Keep S H H') (h0: ∀x,S x->H0 x=none) (h1: ∀x,S x->¬Z x∧a≠some ⟨x,0,none⟩):SR H0 H' Z a c p xs:=
  ⟨Zdd h.own k fun x hx=>(h1 x hx).2,h.ok.ext fun x hx=>⟨hx,k.same x (fun hs=>(h1 x hs).1 hx) (h.new.live x hx)⟩,h.new.keep k fun x hx hs=>(h1 x hs).1 hx,h.cap,Zdz h.keep k h0⟩
theorem SL.step (h:SL H0 H Z a c p xs b l la lc) {S:Nat->Prop} {H':Heap} (k:Keep S H H') (h0: ∀x,S x->H0 x=none) (h1: ∀x,S x->¬Z x∧a≠some ⟨x,0,none⟩∧la≠some ⟨x,0,none⟩):SL H0 H' Z a c p xs b l la lc:=
  ⟨Zdd h.own k fun x hx=>(h1 x hx).2.1,h.ok.ext fun x hx=>⟨hx,k.same x (fun hs=>(h1 x hs).1 hx) (h.new.live x hx)⟩,h.new.keep k fun x hx hs=>(h1 x hs).1 hx,h.cap,Zdz h.keep k h0,h.xl,Zdd h.last k fun x hx=>(h1 x hx).2.2,h.lz,h.lcap⟩
theorem SL.kept (h:SL H0 H Z a c p xs b l la lc) {H':Heap} (k:Keep Nil H H'):SL H0 H' Z a c p xs b l la lc:=h.step k (fun _ h=>h.elim) fun _ h=>h.elim
theorem Zcdi {Z:Nat->Prop} {H:Heap} {l:List UInt32}: ∀(i:Nat) (r:Tp [.int .u32]),(l:List (Tp [.int .u32]))[i]? =some r->Zd Z H [.int .u32] r (fun j=>(v32 l)[i*1+j]?):=fun i r hr=>by have hr':l[i]? =some r:=hr;simp only [Zd,Za,and_true];refine ⟨_,?_,rfl,WfI.of (Zli r)⟩;simp only [Nat.mul_one,Nat.add_zero,v32,List.getElem?_map,hr',Option.map_some];rfl
theorem SL.close (h:SL H0 H Z a c p xs b l la lc):SR H0 H (fun m=>Z m∨la=some ⟨m,0,none⟩) a c (p++[(b,l)]) (xs++[.bool b,.slice la l.length lc]):=by
  refine ⟨by simpa using h.own,?_,h.new.both (NewZ.own h.last),h.cap,h.keep⟩
  refine Zcmn (k1:= .bool) (k2:=kU32) (xs:=p) (x:=(b,l)) h.xl (h.ok.ext fun x hx=>⟨.inl hx,rfl⟩) (by simp only [Za];rfl) ?_
  show Za _ H kU32 l _;exact Zjw (ks:=[.int .u32]) (l:=l) h.last rfl Zcdi h.lcap fun m hm=> .inr hm
theorem SR.frz (h:SR H0 H Z a c p xs):NewZ H0 H (fun m=>Z m∨a=some ⟨m,0,none⟩) [Zba,Zbk]∧Za (fun m=>Z m∨a=some ⟨m,0,none⟩) H Zbf p (.slice a p.length c):=
  ⟨(h.new.mono (by simp)).both ((NewZ.own h.own).mono (by simp)),Zjw (ks:=Zct) (l:=p) h.own rfl (h.ok.ext fun x hx=>⟨.inl hx,rfl⟩) h.cap fun m hm=> .inr hm⟩
theorem SR.push (h:SR H0 H Z a c p xs) {xb lc':Nat} {l:List UInt32} {la:Option Addr} {b:Bool} {K:Value->Heap->Prop} (hn:p.length <= 100000) (hx:Blk H xb Zbk ⟨[.bool b,.slice la l.length lc']⟩) (hl:Sh.Own H0 H la l.length lc' 1 Zba (v32 l)) (hz: ∀m,la=some ⟨m,0,none⟩->¬Z m) (hc:lc' <= Zj)
    (hk: ∀a' c' H',SL H0 H' Z a' c' p xs b l la lc'->(∀m,a'=some ⟨m,0,none⟩->a=some ⟨m,0,none⟩∨H m=none)->Keep (fun m=>a=some ⟨m,0,none⟩) H H'->K (.slice a' (p.length+1) c') H'):
    AppW Tryz.prog #[Zdo,Zdo] Zdo [.slice a p.length c,.slice (some ⟨xb,0,none⟩) 1 1] H K:=by
  obtain ⟨it,i1,i2,i3⟩:=Zblw;refine Zhj (e:=Zbk) (xe:=Zbk) (k:=1) (xc:=1) (z:=[.bool false,.slice none 0 0]) (new:=[.bool b,.slice la l.length lc']) (by kernel_rfl) (by kernel_rfl) i1 i2 i3 (by decide) (by kernel_rfl) rfl h.own h.keep (Reads.blk hx rfl fun j hj=>by simp) (by simp [Zbl]) (by omega) fun a' c' H' q0 q1 q2 q3 q4=>?_
  have hla: ∀x,a=some ⟨x,0,none⟩->la≠some ⟨x,0,none⟩:=fun x ha hx=>by obtain ⟨_,h1⟩:=h.own.live ha;obtain ⟨_,h2⟩:=hl.live hx;exact absurd (Zhs h1 h2) (by decide)
  refine hk a' c' H' ⟨q1,h.ok.ext fun x hx=>⟨hx,q3.same x (fun hs=>h.notZ hs hx) (h.new.live x hx)⟩,h.new.keep q3 fun x hx hs=>h.notZ hs hx,q0 h.cap,q4,h.own.len,Zdd hl q3 hla,hz,hc⟩ q2 q3
theorem SL.grow (h:SL H0 H Z a c p xs b l la lc) {xb:Option Addr} {k xc:Nat} {new:List UInt32} {K:Value->Heap->Prop} (hk:new.length=k) (hl:l.length+k <= 100000000) (hnew:Reads H xb (k*1) (v32 new))
    (hK: ∀la' lc' H' m,(∀x,la'=some ⟨x,0,none⟩->la=some ⟨x,0,none⟩∨H x=none)->a=some ⟨m,0,none⟩->H'.cell ⟨m,p.length*2+1,none⟩=some (.slice la l.length lc)->H'.cell ⟨m,p.length*2,none⟩=some (.bool b)->(∀K':Heap->Prop,(∀H'',SL H0 H'' Z a c p xs b (l++new) la' lc'->Keep (fun x=>la=some ⟨x,0,none⟩∨x=m) H H''->K' H'')->Zb H' ⟨m,p.length*2+1,none⟩ (.slice la' (l.length+k) lc') K')->Keep (fun x=>la=some ⟨x,0,none⟩) H H'->K (.slice la' (l.length+k) lc') H'):
    AppW Tryz.prog #[Zch,Zch] Zch [.slice la l.length lc,.slice xb k xc] H K:=by
  obtain ⟨it,i1,i2,i3⟩:=Zban;refine Zhj (e:=Zba) (xe:=Zba) (z:=[.int .u32 0]) (by kernel_rfl) (by kernel_rfl) i1 i2 i3 (by decide) (by kernel_rfl) rfl h.last h.keep hnew (by simp [Zbl]) (by omega) fun la' lc' H' q0 q1 q2 q3 q4=>?_
  obtain ⟨m,hm⟩:=h.own.addr (by omega)
  have hS: ∀x,la=some ⟨x,0,none⟩->¬Z x∧a≠some ⟨x,0,none⟩:=fun x hx=>⟨h.lz x hx,fun e=>h.ne e hx⟩;have own':=Zdd h.own q3 fun x hx=>(hS x hx).2;obtain ⟨rest,hb,hr⟩:=own'.blk hm;have e1: ∀j,(xs++[Value.bool b,.slice la l.length lc]++rest)[p.length*2+j]? =([Value.bool b,.slice la l.length lc]++rest)[j]? :=fun j=>by rw [List.append_assoc,List.getElem?_append_right (by rw [h.xl];omega),h.xl,Nat.add_sub_cancel_left]
  refine hK la' lc' H' m q2 hm (Zr hb _ (by rw [e1 1];rfl)) (Zr hb _ (by rw [show p.length*2=p.length*2+0 from rfl,e1 0];rfl)) (fun K' hK'=>?_) q3
  refine Zb.blk hb (by simp only [List.size_toArray,List.length_append,h.xl,List.length_cons,List.length_nil];omega) rfl ?_
  have e2:(⟨xs++[Value.bool b,.slice la l.length lc]++rest⟩:Array Value).setIfInBounds (p.length*2+1) (.slice la' (l.length+k) lc')=⟨xs++[Value.bool b,.slice la' (l.length+k) lc']++rest⟩:=by
    apply Array.ext';simp only [Array.toList_setIfInBounds,List.append_assoc];rw [List.set_append_right _ _ (by rw [h.xl];omega),h.xl,Nat.add_sub_cancel_left]
    rfl
  rw [e2];have hb2:Blk (H'.upd m (.cells ⟨xs++[Value.bool b,.slice la' (l.length+k) lc']++rest⟩ Zbk (0,0))) m Zbk ⟨xs++[Value.bool b,.slice la' (l.length+k) lc']++rest⟩:=Blk.upd_eq;have ho2: ∀y,y≠m->(H'.upd m (.cells ⟨xs++[Value.bool b,.slice la' (l.length+k) lc']++rest⟩ Zbk (0,0))) y=H' y:=fun y hy=>Sh.upd_ne hy;generalize H'.upd m (.cells ⟨xs++[Value.bool b,.slice la' (l.length+k) lc']++rest⟩ Zbk (0,0))=H2 at hb2 ho2;have k2:=Zfb hb2 ho2;have hma: ∀x,x=m->la'≠some ⟨x,0,none⟩:=fun x hx e=>by subst hx;obtain ⟨_,h1⟩:=q1.live e;exact absurd (Zhs h1 hb) (by decide)
  have e3:(l++new).length=l.length+k:=by rw [List.length_append,hk]
  have hz2: ∀x,Z x->¬(la=some ⟨x,0,none⟩)∧x≠m:=fun x hx=>⟨fun e=>(hS x e).1 hx,fun e=>h.notZ (e▸hm) hx⟩;refine hK' H2 ⟨?_,?_,?_,h.cap,Zdz q4 k2 fun x hx=>by subst hx;exact h.own.free hm,h.xl,?_,fun x hx hzx=>?_,q0 h.lcap⟩ ⟨fun x hx hl=>?_,fun x hx=>?_⟩
  refine ⟨by have:=h.own.len;simp only [List.length_append,List.length_cons,List.length_nil] at this ⊢;omega,h.own.le,.inr ⟨m,rest,hm,h.own.free hm,by rw [e3];exact hb2,hr⟩⟩
  exact h.ok.ext fun x hx=>⟨hx,by rw [ho2 x (hz2 x hx).2];exact q3.same x (hz2 x hx).1 (h.new.live x hx)⟩
  exact (h.new.keep q3 fun x hx=>(hz2 x hx).1).keep k2 fun x hx=>(hz2 x hx).2
  . rw [e3];have:=Zdd q1 k2 hma;rw [show v32 (l++new)=v32 l++v32 new from List.map_append]
    exact this
  rcases q2 x hx with e | e;exact (hS x e).1 hzx;exact h.new.live x hzx e;rw [ho2 x fun e=>hx (.inr e)];exact q3.same x (fun e=>hx (.inl e)) hl;by_cases e:x=m;subst e;exact hb2.some;rw [ho2 x e];exact q3.live x hx
end
def PSt (H0 H:Heap) (F:Nat->Prop) (a:Option Addr) (n c:Nat) (p:List Seg):Prop:=
  (p= []∧n=0∧SR H0 H (fun _=>False) a c [] []∧∀x,F x↔a=some ⟨x,0,none⟩)∨
  ∃Z init b l xs la lc,p=init++[(b,l)]∧n=p.length∧SL H0 H Z a c init xs b l la lc∧∀x,F x↔(a=some ⟨x,0,none⟩∨la=some ⟨x,0,none⟩∨Z x)
section
variable {H0 H H':Heap} {F:Nat->Prop} {a:Option Addr} {n c:Nat} {p:List Seg}
theorem PSt.len (h:PSt H0 H F a n c p):n=p.length:=by rcases h with ⟨rfl,rfl,_⟩ | ⟨Z,init,b,l,xs,la,lc,rfl,rfl,_⟩<;>rfl
theorem PSt.keep (h:PSt H0 H F a n c p):Keep Nil H0 H:=by rcases h with ⟨_,_,h,_⟩ | ⟨Z,init,b,l,xs,la,lc,_,_,h,_⟩;exact h.keep;exact h.keep
theorem PSt.new (h:PSt H0 H F a n c p) {x:Nat} (hx:F x):H0 x=none∧∃T q,Blk H x T q∧T∈[Zba,Zbk]:=by
  rcases h with ⟨_,_,h,hF⟩ | ⟨Z,init,b,l,xs,la,lc,_,_,h,hF⟩;have hx:=(hF x).1 hx;obtain ⟨q,hq⟩:=h.own.live hx;exact ⟨h.own.free hx,_,q,hq,by simp⟩
  . rcases (hF x).1 hx with hx | hx | hx;obtain ⟨q,hq⟩:=h.own.live hx;exact ⟨h.own.free hx,_,q,hq,by simp⟩
    obtain ⟨q,hq⟩:=h.last.live hx;exact ⟨h.last.free hx,_,q,hq,by simp⟩
    obtain ⟨h1,T,q,h2,h3⟩:=h.new x hx;exact ⟨h1,T,q,h2,List.mem_cons.2 (.inl (List.mem_singleton.1 h3))⟩
theorem PSt.live (h:PSt H0 H F a n c p) {x:Nat} (hx:F x):H x≠none:=by obtain ⟨_,T,q,hq,_⟩:=h.new hx;exact hq.some
theorem PSt.agree (h:PSt H0 H F a n c p) (k: ∀x,H x≠none->F x∨H0 x≠none->H' x=H x) (lv: ∀x,H x≠none->H' x≠none):PSt H0 H' F a n c p:=by have kk:Keep (fun x=>¬(F x∨H0 x≠none)) H H':=⟨fun x hx hl=>k x hl (Classical.byContradiction hx),lv⟩;have h0: ∀x,¬(F x∨H0 x≠none)->H0 x=none:=fun x hx=>Classical.byContradiction fun e=>hx (.inr e);rcases h with ⟨h1,h2,h,hF⟩ | ⟨Z,init,b,l,xs,la,lc,h1,h2,h,hF⟩;exact .inl ⟨h1,h2,h.step kk h0 fun x hx=>⟨id,fun e=>hx (.inl ((hF x).2 e))⟩,hF⟩;exact .inr ⟨Z,init,b,l,xs,la,lc,h1,h2,h.step kk h0 fun x hx=>⟨fun e=>hx (.inl ((hF x).2 (.inr (.inr e)))),fun e=>hx (.inl ((hF x).2 (.inl e))),fun e=>hx (.inl ((hF x).2 (.inr (.inl e))))⟩,hF⟩
theorem PSt.kept (h:PSt H0 H F a n c p) (k:Keep Nil H H'):PSt H0 H' F a n c p:=h.agree (fun x hl _=>k.same x (fun h=>h) hl) k.live
theorem PSt.step (h:PSt H0 H F a n c p) {S:Nat->Prop} (k:Keep S H H') (hS: ∀x,S x->H0 x=none∧¬F x):PSt H0 H' F a n c p:=h.agree (fun x hl hx=>k.same x (fun hs=>by
  obtain ⟨h1,h2⟩:=hS x hs;rcases hx with hx | hx;exact h2 hx
  . exact hx h1) hl) k.live
theorem PSt.frz (h:PSt H0 H F a n c p):NewZ H0 H F [Zba,Zbk]∧Za F H Zbf p (.slice a n c):=by refine ⟨fun x hx=>h.new hx,?_⟩;rcases h with ⟨rfl,rfl,h,hF⟩ | ⟨Z,init,b,l,xs,la,lc,rfl,rfl,h,hF⟩;have:=h.frz.2;exact Za.ext (fun x hx=>⟨(hF x).2 (hx.elim (fun h=>h.elim) id),rfl⟩) _ _ _ this;have:=h.close.frz.2;refine Za.ext (fun x hx=>⟨(hF x).2 ?_,rfl⟩) _ _ _ this;rcases hx with (hx | hx) | hx;exact .inr (.inr hx);exact .inr (.inl hx);exact .inl hx
theorem PSt.push (h:PSt H0 H F a n c p) {xb:Nat} {b:Bool} {K:Value->Heap->Prop} (hn:p.length <= 100000) (hx:Blk H xb Zbk ⟨[.bool b,.slice none 0 0]⟩)
    (hk: ∀a' c' H' F',PSt H0 H' F' a' (n+1) c' (p++[(b,[])])->(∀x,F' x->F x∨H x=none)->Keep F H H'->K (.slice a' (n+1) c') H'):
    AppW Tryz.prog #[Zdo,Zdo] Zdo [.slice a n c,.slice (some ⟨xb,0,none⟩) 1 1] H K:=by
  rcases h with ⟨rfl,rfl,h,hF⟩ | ⟨Z,init,b0,l,xs,la,lc,rfl,rfl,h,hF⟩
  . refine h.push (l:=[]) (lc':=0) (b:=b) hn hx Own.nil (fun m e=>by cases e) (by decide) fun a' c' H' q1 q2 q3=>?_
    refine hk a' c' H' (fun x=>a'=some ⟨x,0,none⟩) (.inr ⟨_,[],b,[],[],none,0,rfl,rfl,q1,fun x=>⟨.inl,fun e=>?_⟩⟩) (fun x e=>?_) (q3.mono fun x e=>(hF x).2 e);rcases e with e | e | e;exact e;cases e;exact e.elim;exact (q2 x e).imp (fun e=>(hF x).2 e) id
  . have hc:=h.close;refine hc.push (l:=[]) (lc':=0) (b:=b) hn hx Own.nil (fun m e=>by cases e) (by decide) fun a' c' H' q1 q2 q3=>?_
    refine hk a' c' H' (fun x=>a'=some ⟨x,0,none⟩∨(Z x∨la=some ⟨x,0,none⟩)) (.inr ⟨_,_,b,[],_,none,0,rfl,by simp,q1,fun x=>⟨fun e=>?_,fun e=>?_⟩⟩) (fun x e=>?_) (q3.mono fun x e=>(hF x).2 (.inl e))
    rcases e with e | e;exact .inl e;exact .inr (.inr e);rcases e with e | e | e;exact .inl e;cases e;exact .inr e;rcases e with e | e | e;exact (q2 x e).imp (fun e=>(hF x).2 (.inl e)) id;exact .inl ((hF x).2 (.inr (.inr e)));exact .inl ((hF x).2 (.inr (.inl e)))
theorem PSt.last (h:PSt H0 H F a n c p) (hp:p≠[]): ∃m init b l la lc,a=some ⟨m,0,none⟩∧F m∧p=init++[(b,l)]∧n=init.length+1∧H.cell ⟨m,init.length*2,none⟩=some (.bool b)∧H.cell ⟨m,init.length*2+1,none⟩=some (.slice la l.length lc)∧
    (∀{x:Nat} {u:UInt32} {H1:Heap} {K:Value->Heap->Prop},Keep Nil H H1->Blk H1 x Zba ⟨[.int .u32 (u.toNat:Int)]⟩->l.length <= 10000000->
      (∀la' lc' H2,(∀K':Heap->Prop,(∀H3 F',PSt H0 H3 F' a n c (init++[(b,l++[u])])->(∀x,F' x->F x∨H1 x=none)->Keep F H1 H3->K' H3)->Zb H2 ⟨m,init.length*2+1,none⟩ (.slice la' (l.length+1) lc') K')->Keep F H1 H2->K (.slice la' (l.length+1) lc') H2)->
      AppW Tryz.prog #[Zch,Zch] Zch [.slice la l.length lc,.slice (some ⟨x,0,none⟩) 1 1] H1 K):=by
  rcases h with ⟨h,_⟩ | ⟨Z,init,b,l,xs,la,lc,rfl,rfl,h,hF⟩;exact absurd h hp;obtain ⟨m,hm⟩:=h.own.addr (by omega)
  obtain ⟨rest,hb,hr⟩:=h.own.blk hm;have e1: ∀j,(xs++[Value.bool b,.slice la l.length lc]++rest)[init.length*2+j]? =([Value.bool b,.slice la l.length lc]++rest)[j]? :=fun j=>by rw [List.append_assoc,List.getElem?_append_right (by rw [h.xl];omega),h.xl,Nat.add_sub_cancel_left]
  refine ⟨m,init,b,l,la,lc,hm,(hF m).2 (.inl hm),rfl,by simp,Zr hb _ (by rw [show init.length*2=init.length*2+0 from rfl,e1 0];rfl),Zr hb _ (by rw [e1 1];rfl),?_⟩
  intro x u H1 K k1 hx hl hK;have h1:=h.kept k1;refine h1.grow (new:=[u]) (k:=1) (xc:=1) rfl (by omega) (Reads.blk hx rfl fun j hj=>by simp) fun la' lc' H2 m' q0 e _ _ q1 q2=>?_
  rw [hm] at e;simp only [Option.some.injEq,Addr.mk.injEq,and_true] at e;subst e;refine hK la' lc' H2 (fun K' hK'=>q1 K' fun H3 q3 q4=>hK' H3 (fun x=>a=some ⟨x,0,none⟩∨la'=some ⟨x,0,none⟩∨Z x) (.inr ⟨Z,init,b,l++[u],xs,la',lc',rfl,by simp,q3,fun x=>Iff.rfl⟩) (fun x e=>?_) (q4.mono fun x e=>?_)) (q2.mono fun x e=>(hF x).2 (.inr (.inl e)))
  rcases e with e | e | e;exact .inl ((hF x).2 (.inl e));exact (q0 x e).imp (fun e=>(hF x).2 (.inr (.inl e))) id;exact .inl ((hF x).2 (.inr (.inr e)));rcases e with e | e;exact (hF x).2 (.inr (.inl e));subst e;exact (hF _).2 (.inl hm)
end
theorem Zcaw {f:FuncId} {q:PkTs [Pk.lst Zct]->(PkTs [Pk.int .i64]->Prop)->Prop} (hq:FnQ Tryz.prog f [Pk.lst Zct] [Pk.int .i64] q) {H:Heap} (hy:Lyd H) {Z:Nat->Prop} {p:List Seg} {v:Value} (hz: ∀x,Z x->H x≠none) (hp:Za Z H Zbf p v) {n:Int} (h: ∀K:PkTs [Pk.int .i64]->Prop,K (n,())->q (p,()) K):
    FnW Tryz.prog f ⟨[v]⟩ H fun v H'=>Keep Nil H H'∧v= .int .i64 n:=by
  refine (FnQ.run (x:=((p,()):PkTs [Pk.lst Zct])) hq rfl rfl (Z:=Z) ?_ hz hy.live hy.ok (K:=fun y=>y=(n,())) (h _ rfl)).mono fun v H' hk=>?_;show SimL (gZ Z) H 0 [AV.lst Zct p] [v];simp only [SimL,SimV,and_true];exact hp;obtain ⟨hk,y,rfl,_,hv⟩:=hk;have:=hv 0 (gZ fun _=>False);simp only [pksA,pkA,outA,SimV] at this;exact ⟨hk,this.1⟩
theorem Zcct {H0 H H':Heap} {Z:Nat->Prop} {Ts:List TypeId} {k:Kd} {x:El k} {v:Value} (hz:NewZ H0 H Z Ts) (h:Za Z H k x v) {Hs:Heap} (hs:Shut Hs H H'):Za Z H' k x v:=Za.ext (fun m hm=>⟨hm,by
  obtain ⟨_,T,q,hq,_⟩:=hz m hm;rw [hq];exact Zhg hq hs⟩) _ _ _ h
theorem Zcpd {H0 H:Heap} {a:Option Addr} {n k cap sz:Nat} {T:TypeId} {xs:List Value} (h:Sh.Own H0 H a n cap sz T xs) (hk:k <= n):Sh.Own H0 H a k cap sz T (xs.take (k*sz)):=by
  obtain ⟨hl,hc,hr⟩:=h;have hm:k*sz <= n*sz:=Nat.mul_le_mul_right _ hk;refine ⟨by rw [List.length_take];omega,by omega,?_⟩
  rcases hr with ⟨rfl,rfl,rfl⟩ | ⟨m,rest,rfl,h0,hb,hr⟩;exact .inl ⟨rfl,by omega,rfl⟩
  . refine .inr ⟨m,xs.drop (k*sz)++rest,rfl,h0,by rw [← List.append_assoc,List.take_append_drop];exact hb,?_⟩
    rw [List.length_append,List.length_drop,hl,hr,← Nat.sub_mul,← Nat.add_mul];congr 1;omega
theorem Zccc (l:List UInt32) (k:Nat):(v32 l).take (k*1)=v32 (l.take k):=by rw [Nat.mul_one];exact (List.map_take).symm
theorem rd32 {Z:Nat->Prop} {H:Heap} {l:List UInt32} {a:Option Addr} {n c:Nat} (h:Za Z H kU32 l (.slice a n c)):n=l.length∧n <= c∧c <= Zj∧Reads H a (n*1) (v32 l):=by
  obtain ⟨a',n',c',new,e,h1,h2,h3,h4,h5,h6⟩:=Zkx (g:=gZ Z) (ks:=[.int .u32]) (xs:=l) h;cases e;have h1:l.length=n:=h1;refine ⟨h1.symm,h2,h3,?_⟩;have e:new=v32 l:=by
    have hl:=h4.len;apply List.ext_getElem?
    intro i;rcases Nat.lt_or_ge i l.length with hi | hi;have:=h5 i l[i] (List.getElem?_eq_getElem hi);simp only [Zd,Za,and_true] at this;obtain ⟨v,hv,rfl,_⟩:=this;simp only [List.length_cons,List.length_nil,Nat.zero_add,Nat.mul_one,Nat.add_zero] at hv;rw [hv];simp only [v32,List.getElem?_map,List.getElem?_eq_getElem hi,Option.map_some];rfl;rw [List.getElem?_eq_none (by rw [hl];simp only [List.length_cons,List.length_nil];omega),List.getElem?_eq_none (by simp only [v32,List.length_map];omega)]
  rw [e] at h4;exact h4
theorem Zcgd (l:List UInt32): ∀v∈v32 l,Zbl v=true:=fun v hv=>by obtain ⟨x,_,rfl⟩:=List.mem_map.1 hv;rfl
section
variable {H0 H H':Heap} {F:Nat->Prop} {a:Option Addr} {n c:Nat} {p:List Seg}
theorem PSt.toSR (h:PSt H0 H F a n c p):n=p.length∧∃Z xs,SR H0 H Z a c p xs∧∀x,F x↔(a=some ⟨x,0,none⟩∨Z x):=by
  rcases h with ⟨rfl,rfl,h,hF⟩ | ⟨Z,init,b,l,xs,la,lc,rfl,rfl,h,hF⟩;exact ⟨rfl,_,_,h,fun x=>by rw [hF];simp⟩
  refine ⟨rfl,_,_,h.close,fun x=>?_⟩;rw [hF];constructor;rintro (h | h | h);exact .inl h;exact .inr (.inr h);exact .inr (.inl h);rintro (h | h | h);exact .inl h;exact .inr (.inr h);exact .inr (.inl h)
theorem PSt.put (h:PSt H0 H F a n c p) {xb lc:Nat} {b:Bool} {l:List UInt32} {la:Option Addr} {K:Value->Heap->Prop} (hn:p.length <= 100000) (hx:Blk H xb Zbk ⟨[.bool b,.slice la l.length lc]⟩) (hl:Sh.Own H0 H la l.length lc 1 Zba (v32 l)) (hz: ∀m,la=some ⟨m,0,none⟩->¬F m) (hc:lc <= Zj)
    (hk: ∀a' c' H' F',PSt H0 H' F' a' (n+1) c' (p++[(b,l)])->(∀x,F' x->F x∨la=some ⟨x,0,none⟩∨H x=none)->Keep F H H'->K (.slice a' (n+1) c') H'):
    AppW Tryz.prog #[Zdo,Zdo] Zdo [.slice a n c,.slice (some ⟨xb,0,none⟩) 1 1] H K:=by
  obtain ⟨rfl,Z,xs,hs,hF⟩:=h.toSR;refine hs.push hn hx hl (fun m e hm=>hz m e ((hF m).2 (.inr hm))) hc fun a' c' H' q1 q2 q3=>?_;refine hk a' c' H' (fun x=>a'=some ⟨x,0,none⟩∨la=some ⟨x,0,none⟩∨Z x) (.inr ⟨Z,p,b,l,xs,la,lc,rfl,by simp,q1,fun x=>Iff.rfl⟩) (fun x e=>?_) (q3.mono fun x e=>(hF x).2 (.inl e))
  rcases e with e | e | e;rcases q2 x e with e | e;exact .inl ((hF x).2 (.inl e));exact .inr (.inr e);exact .inr (.inl e);exact .inl ((hF x).2 (.inr e))
theorem PSt.mono {S:Nat->Prop} {H1:Heap} (h:PSt H1 H F a n c p) (k:Keep S H0 H1) (k0:Keep Nil H0 H):PSt H0 H F a n c p:=by have sr: ∀{Z p xs},SR H1 H Z a c p xs->SR H0 H Z a c p xs:=fun h=>⟨h.own.mono k,h.ok,h.new.early k,h.cap,k0⟩;rcases h with ⟨h1,h2,h,hF⟩ | ⟨Z,init,b,l,xs,la,lc,h1,h2,h,hF⟩;exact .inl ⟨h1,h2,sr h,hF⟩;exact .inr ⟨Z,init,b,l,xs,la,lc,h1,h2,⟨h.own.mono k,h.ok,h.new.early k,h.cap,k0,h.xl,h.last.mono k,h.lz,h.lcap⟩,hF⟩
theorem PSt.lastN (h:PSt H0 H F a n c p) (hp:p≠[]): ∃m init b l la lc,a=some ⟨m,0,none⟩∧F m∧p=init++[(b,l)]∧n=init.length+1∧H.cell ⟨m,init.length*2,none⟩=some (.bool b)∧H.cell ⟨m,init.length*2+1,none⟩=some (.slice la l.length lc)∧
    (∀{xb:Option Addr} {k xc:Nat} {new:List UInt32} {H1:Heap} {K:Value->Heap->Prop},Keep Nil H H1->new.length=k->Reads H1 xb (k*1) (v32 new)->l.length+k <= 10000000->
      (∀la' lc' H2,(∀K':Heap->Prop,(∀H3 F',PSt H0 H3 F' a n c (init++[(b,l++new)])->(∀x,F' x->F x∨H1 x=none)->Keep F H1 H3->K' H3)->Zb H2 ⟨m,init.length*2+1,none⟩ (.slice la' (l.length+k) lc') K')->Keep F H1 H2->K (.slice la' (l.length+k) lc') H2)->
      AppW Tryz.prog #[Zch,Zch] Zch [.slice la l.length lc,.slice xb k xc] H1 K):=by
  rcases h with ⟨h,_⟩ | ⟨Z,init,b,l,xs,la,lc,rfl,rfl,h,hF⟩;exact absurd h hp;obtain ⟨m,hm⟩:=h.own.addr (by omega)
  obtain ⟨rest,hb,hr⟩:=h.own.blk hm;have e1: ∀j,(xs++[Value.bool b,.slice la l.length lc]++rest)[init.length*2+j]? =([Value.bool b,.slice la l.length lc]++rest)[j]? :=fun j=>by rw [List.append_assoc,List.getElem?_append_right (by rw [h.xl];omega),h.xl,Nat.add_sub_cancel_left]
  refine ⟨m,init,b,l,la,lc,hm,(hF m).2 (.inl hm),rfl,by simp,Zr hb _ (by rw [show init.length*2=init.length*2+0 from rfl,e1 0];rfl),Zr hb _ (by rw [e1 1];rfl),?_⟩
  intro xb k xc new H1 K k1 hx hrd hl hK;have h1:=h.kept k1;refine h1.grow (new:=new) (k:=k) (xc:=xc) hx (by omega) hrd fun la' lc' H2 m' q0 e _ _ q1 q2=>?_
  rw [hm] at e;simp only [Option.some.injEq,Addr.mk.injEq,and_true] at e;subst e;refine hK la' lc' H2 (fun K' hK'=>q1 K' fun H3 q3 q4=>hK' H3 (fun x=>a=some ⟨x,0,none⟩∨la'=some ⟨x,0,none⟩∨Z x) (.inr ⟨Z,init,b,l++new,xs,la',lc',rfl,by simp,q3,fun x=>Iff.rfl⟩) (fun x e=>?_) (q4.mono fun x e=>?_)) (q2.mono fun x e=>(hF x).2 (.inr (.inl e)))
  rcases e with e | e | e;exact .inl ((hF x).2 (.inl e));exact (q0 x e).imp (fun e=>(hF x).2 (.inr (.inl e))) id;exact .inl ((hF x).2 (.inr (.inr e)));rcases e with e | e;exact (hF x).2 (.inr (.inl e));subst e;exact (hF _).2 (.inl hm)
theorem SR.shut {Z:Nat->Prop} {xs:List Value} (h:SR H0 H Z a c p xs) {Hs:Heap} (hs:Shut H0 H H'):SR H0 H' Z a c p xs:=
  ⟨Zxs h.own hs,h.ok.ext fun x hx=>⟨hx,by
    obtain ⟨_,T,q,hq,_⟩:=h.new x hx;rw [hq];exact Zhg hq hs⟩,h.new.shut hs,h.cap,Zib h.keep hs⟩
theorem PSt.shut (h:PSt H0 H F a n c p) (hs:Shut H0 H H'):PSt H0 H' F a n c p:=by rcases h with ⟨h1,h2,h,hF⟩ | ⟨Z,init,b,l,xs,la,lc,h1,h2,h,hF⟩;exact .inl ⟨h1,h2,h.shut (Hs:=H0) hs,hF⟩;refine .inr ⟨Z,init,b,l,xs,la,lc,h1,h2,⟨Zxs h.own hs,h.ok.ext fun x hx=>⟨hx,?_⟩,h.new.shut hs,h.cap,Zib h.keep hs,h.xl,Zxs h.last hs,h.lz,h.lcap⟩,hF⟩;obtain ⟨_,T,q,hq,_⟩:=h.new x hx;rw [hq];exact Zhg hq hs
end
theorem Zcfc {H H':Heap} {bs:List Nat} (hb: ∀b∈bs,H b≠none) (k:Keep Nil H H'):Zcl bs H H':=fun x hx=>by obtain ⟨o,ho⟩:=Option.ne_none_iff_exists'.1 (hb x hx);exact ⟨⟨o,ho⟩,k.same _ (fun h=>h.elim) (hb x hx)⟩
theorem Zckn {H:Heap} {bs:List Nat} (hb: ∀b∈bs,H b≠none): ∀b∈bs,∃o,H b=some o:=fun b h=>Option.ne_none_iff_exists'.1 (hb b h)
theorem oneB {H:Heap} {b:Nat} (h:H b≠none): ∀x∈[b],H x≠none:=fun x hx=>by rw [List.mem_singleton] at hx;subst hx;exact h
def Zcse (H:Heap) (p:List Seg) (v:Value) (H':Heap):Prop:=∃F a n c,v= .slice a n c∧PSt H H' F a n c p
theorem PSt.start {H0 H:Heap} {m:Nat} (h0:H0 m=none) (hb:Blk H m Zbk ⟨[]⟩) (k:Keep Nil H0 H):PSt H0 H (fun x=>(some ⟨m,0,none⟩:Option Addr)=some ⟨x,0,none⟩) (some ⟨m,0,none⟩) 0 0 []:= .inl ⟨rfl,rfl,SR.start h0 hb k,fun _=>Iff.rfl⟩
theorem Zbgc {H:Heap} {Z:Nat->Prop} {p:List Seg} {v:Value} (hz: ∀x,Z x->H x≠none) (hp:Za Z H Zbf p v) (hl:p.length <= 10000) (hs: ∀s∈p,s.2.length <= 100000):FnW Tryz.prog Zme ⟨[v]⟩ H (Zcse H p):=by
  obtain ⟨pa,pn,pc,rfl⟩:=Zow hp;have hpn:pn=p.length:=(Zry (ks:=Zct) hp).1;refine Zcix pa pn pc ?_;unfold Zbda;refine Zlh fun ob H1 f1 k1 b1=>?_;refine ⟨fun k x Hc=>∃(pre post:List Seg) (F:Nat->Prop) (a:Option Addr) (n c:Nat),x=((a,n,c),((pre.length:Int),()))∧k=post.length∧p=pre++post∧PSt H Hc F a n c pre,p.length,⟨[],p,_,_,0,0,rfl,rfl,rfl,PSt.start f1 b1 k1⟩,?_⟩;rintro k x H2 ⟨pre,post,F,a,n,c,rfl,rfl,hpp,ps⟩ g;have hpl:p.length=pre.length+post.length:=by rw [hpp,List.length_append]
  have kk:=ps.keep;have hp2:Za Z H2 Zbf p (.slice pa pn pc):=Za.ext (fun x hx=>⟨hx,kk.same x (fun h=>h) (hz x hx)⟩) _ _ _ hp;show Zben pa pn pc a n c (pre.length:Int) H2 _ _;unfold Zben;cases post with
  | nil=>
    simp only [List.append_nil] at hpp;subst hpp;exact ifF (decide_eq_false (by omega)) fun H3 hs3=>⟨F,a,n,c,rfl,ps.shut hs3⟩
  | cons s post=>
    simp only [List.length_cons] at hpl;have hget:p[pre.length]? =some s:=by rw [hpp];simp
    obtain ⟨b,o,sa,sn,sc,rfl,hzb,hbl,q1,q2,q3⟩:=Zbsl hp2 hget;obtain ⟨rfl,r2,r3,r4⟩:=rd32 q3;have hsl:s.2.length <= 100000:=hs s (by rw [hpp];simp)
    refine ifT (decide_eq_true (by omega)) ⟨[b],Zckn (oneB hbl),NilP.intro _ rfl (InB.intro pre.length rfl (by omega) ?_)⟩
    rw [Zez];refine ⟨by simp,_,q1,Zlh fun m H3 f3 k3 b3=>NilP.intro _ rfl (InB.intro pre.length rfl (by omega) ?_)⟩
    rw [Zez];have q2':H3.cell ⟨b,o+pre.length*2+1,none⟩=some (.slice sa s.2.length sc):=by rw [← q2];simp only [Heap.cell];rw [k3.same b (fun h=>h) hbl]
    refine ⟨_,_,_,q2',?_⟩;obtain ⟨it,i1,i2,i3⟩:=Zban;have k03:=kk.trans k3;refine Zhj (e:=Zba) (xe:=Zba) (z:=[.int .u32 0]) (by kernel_rfl) (by kernel_rfl) i1 i2 i3 (by decide) (by kernel_rfl) rfl (Sh.Own.start (H0:=H2) f3 b3) k3 (new:=v32 s.2) (r4.keep k3 fun _ _ h=>h) (Zcgd s.2) (by omega) fun a' cap' H4 w0 w1 w2 w3 w4=>?_
    rw [Nat.zero_add,List.nil_append] at w1;rw [Nat.zero_add];have ps4:=ps.kept w4;refine ⟨_,_,_,rfl,Zcfc (oneB hbl) w4,Zlh fun xb H5 f5 k5 b5=>?_⟩;have own5:=Zdd (w1.mono kk) k5 fun _ h=>h.elim;refine (ps4.kept k5).put (l:=s.2) (lc:=cap') (by omega) b5 own5 (fun x e hF=>?_) (w0 (by decide)) fun a6 c6 H6 F6 t1 t2 t3=>?_
    exact ps.live hF (w1.free e)
    . refine ⟨a6,n+1,c6,rfl,post.length,by simp,pre++[s],post,F6,a6,n+1,c6,?_,rfl,by rw [hpp];simp,t1⟩
      have:IntKind.wrap .i64 ((pre.length:Int)+1)=((pre++[s]).length:Int):=by rw [Ze (by omega) (by omega)];simp
      rw [this]
theorem Zcng (p:List Seg) (K:Int->Prop) (hl:p.length+cnt p <= 1000000000) (h:K (lenP p)):Zbgs p K:=by
  unfold Zbgs;refine Zk.over p (fun pre=>((lenP pre:Int),(pre.length:Int),())) (fun _=>True) rfl trivial (fun pre s post hp hn _ next hx=>?_) (fun _ next _=>?_)
  . intro _;dsimp only [Zbau,Zbgh];have e:=Zws pre (s::post);rw [← hp] at e;have e2:lenP (pre++[s])=lenP pre+(if s.1 then 1 else s.2.length):=by rw [Zws];simp [lenP]
    have e3:lenP (s::post)=(if s.1 then 1 else s.2.length)+lenP post:=by simp [lenP]
    have hle:=Zkd p;refine ifT (decide_eq_true (by omega)) ⟨by omega,AtN.of (Zcf hp) fun _=>IfB.intro (fun h1=>of_eq (hx trivial) ?_) (fun h1=>⟨by omega,AtN.of (Zcf hp) fun _=>of_eq (hx trivial) ?_⟩)⟩
    . rw [h1,if_pos rfl] at e2 e3;rw [Ze (by omega) (by omega),Ze (by omega) (by omega),e2]
      simp
    . rw [h1,if_neg (by decide)] at e2 e3
      rw [Ze (by omega) (by omega),Ze (by omega) (by omega),e2]
      simp
  dsimp only [Zbau];exact ifF (decide_eq_false (by omega)) h
theorem Zboo {H:Heap} (hy:Lyd H) {Z:Nat->Prop} {p:List Seg} {v:Value} (hz: ∀x,Z x->H x≠none) (hp:Za Z H Zbf p v) (hl:p.length+cnt p <= 1000000000):FnW Tryz.prog Zox ⟨[v]⟩ H fun v H'=>Keep Nil H H'∧v= .int .i64 (lenP p:Nat):=
  Zcaw Zccm hy hz hp fun K hk=>Zcng p _ hl hk
theorem Zbpz {Z:Nat->Prop} {H:Heap} {ks:List Kd} {xs:List (Tp ks)} {a:Option Addr} {n c k:Nat} (h:Za Z H (.lst ks) xs (.slice a n c)) (hk:k <= n):
    Za Z H (.lst ks) (xs.drop k) (.slice (if c=k then a else Option.map (fun q=>Addr.add q (k*ks.length)) a) (n - k) (c - k)):=by
  simp only [Za] at h ⊢;obtain ⟨a',n',c',e,h1,h2,h3,h4⟩:=h;cases e;have h1:xs.length=n:=h1;refine ⟨_,_,_,rfl,?_,by omega,by omega,fun h0=>?_⟩
  show (xs.drop k).length=_;rw [List.length_drop];omega;obtain ⟨b,o,rfl,hz,cs,T,fr,hb,hc⟩:=h4 (by omega)
  rw [if_neg (by omega)]
  refine ⟨b,o+k*ks.length,by rw [Option.map_some,Zcv rfl],hz,cs,T,fr,hb,fun j x hj=>?_⟩
  have hj:(xs.drop k)[j]? =some x:=hj;rw [List.getElem?_drop] at hj;refine Zd.congr (fun i hi=>?_) (hc (k+j) x hj);congr 1;rw [Nat.add_mul];omega
theorem Zcrn {Z:Nat->Prop} {H:Heap} {ks:List Kd} {xs:List (Tp ks)} {a:Option Addr} {n c k:Nat} (h:Za Z H (.lst ks) xs (.slice a n c)) (hk:k <= n):Za Z H (.lst ks) (xs.take k) (.slice a k c):=by
  simp only [Za] at h ⊢;obtain ⟨a',n',c',e,h1,h2,h3,h4⟩:=h;cases e;have h1:xs.length=n:=h1;refine ⟨_,_,_,rfl,?_,by omega,by omega,fun h0=>?_⟩
  show (xs.take k).length=_;rw [List.length_take];omega;obtain ⟨b,o,rfl,hz,cs,T,fr,hb,hc⟩:=h4 (by omega)
  refine ⟨b,o,rfl,hz,cs,T,fr,hb,fun j x hj=>?_⟩;have hj:(xs.take k)[j]? =some x:=hj;rw [List.getElem?_take] at hj;split at hj;exact hc j x hj;cases hj
section
variable {H0 H:Heap} {F:Nat->Prop} {a:Option Addr} {n c:Nat}
theorem PSt.single {b:Bool} {l:List UInt32} (h:PSt H0 H F a n c [(b,l)]): ∃m la lc,a=some ⟨m,0,none⟩∧n=1∧H m≠none∧H.cell ⟨m,0,none⟩=some (.bool b)∧H.cell ⟨m,1,none⟩=some (.slice la l.length lc)∧Sh.Own H0 H la l.length lc 1 Zba (v32 l)∧lc <= Zj:=by
  rcases h with ⟨h,_⟩ | ⟨Z,init,b',l',xs,la,lc,hp,rfl,h,hF⟩;cases h
  . rcases init with _ | ⟨y,init⟩
    . simp only [List.nil_append,List.cons.injEq,Prod.mk.injEq,and_true] at hp;obtain ⟨rfl,rfl⟩:=hp;obtain ⟨m,hm⟩:=h.own.addr (by omega)
      obtain ⟨rest,hb,hr⟩:=h.own.blk hm;have hx:xs= []:=List.eq_nil_of_length_eq_zero (by simpa using h.xl)
      subst hx;exact ⟨m,la,lc,hm,rfl,hb.some,Zr hb 0 rfl,Zr hb 1 rfl,h.last,h.lcap⟩
    have:=congrArg List.length hp;simp at this
def Zit (H:Heap) (p:List Seg) (v:Value) (H':Heap):Prop:=Keep Nil H H'∧∃Zn,NewZ H H' Zn [Zba,Zbk]∧Za Zn H' Zbf p v
theorem Zit.shut {H H' H'':Heap} {p:List Seg} {v:Value} (h:Zit H p v H') (hs:Shut H H' H''):Zit H p v H'':=by obtain ⟨h1,Zn,h2,h4⟩:=h;exact ⟨Zib h1 hs,Zn,h2.shut hs,Zcct h2 h4 hs⟩
theorem PSt.join {p q:List Seg} (h:PSt H0 H F a n c p) {Zm:Nat->Prop} {ma:Option Addr} {mn mc:Nat} {K:Value->Heap->Prop} (hq:Za Zm H Zbf q (.slice ma mn mc)) (hn:NewZ H0 H Zm [Zba,Zbk]) (hd: ∀x,Zm x->¬F x) (hl:p.length+q.length <= 100000)
    (hk: ∀v H',Zit H0 (p++q) v H'->∃a n c,v= .slice a n c∧K v H'):
    AppW Tryz.prog #[Zdo,Zdo] Zdo [.slice a n c,.slice ma mn mc] H fun v H'=>K v H':=by
  obtain ⟨rfl,Z,xs,sr,hF⟩:=h.toSR;obtain ⟨a',n',c',new,e,h1,h2,h3,h4,h5,h6⟩:=Zkx (g:=gZ Zm) (ks:=Zct) (xs:=q) hq;cases e;have h1:q.length=mn:=h1;obtain ⟨it,i1,i2,i3⟩:=Zblw;refine Zhj (e:=Zbk) (xe:=Zbk) (z:=[.bool false,.slice none 0 0]) (by kernel_rfl) (by kernel_rfl) i1 i2 i3 (by decide) (by kernel_rfl) rfl sr.own sr.keep (new:=new) h4 h6 (by omega) fun a' c' H' q0 q1 q2 q3 q4=>?_
  have zk: ∀x,(Z x∨Zm x)->¬a=some ⟨x,0,none⟩:=fun x hx e=>by rcases hx with hx | hx;exact sr.notZ e hx;exact hd x hx ((hF x).2 (.inl e))
  have n1:NewZ H0 H' (fun x=>(Z x∨Zm x)∨a'=some ⟨x,0,none⟩) [Zba,Zbk]:=(((sr.new.mono (by simp)).both hn).keep q3 zk).both ((NewZ.own q1).mono (by simp))
  have live: ∀x,(Z x∨Zm x)->H x≠none:=fun x hx=>hx.elim (sr.new.live x) (hn.live x);have hfin:Za (fun x=>(Z x∨Zm x)∨a'=some ⟨x,0,none⟩) H' Zbf (p++q) (.slice a' (p.length+mn) c'):=?_;obtain ⟨_,_,_,_,hk⟩:=hk (.slice a' (p.length+mn) c') H' ⟨q4,_,n1,hfin⟩;exact hk;refine Zjw (ks:=Zct) (l:=(p++q:List Seg)) q1 (by show (p++q).length=_;rw [List.length_append];omega) ?_ (q0 sr.cap) fun x hx=> .inr hx
  intro i r hr;have hxl:xs.length=p.length*2:=sr.own.len;rcases Nat.lt_or_ge i p.length with hi | hi
  . have hr:(p:List (Tp Zct))[i]? =some r:=by have hr:(p++q)[i]? =some r:=hr;rw [List.getElem?_append_left hi] at hr;exact hr
    refine Zd.congr (fun j hj=>?_) (Zd.ext (fun x hx=>⟨.inl (.inl hx),q3.same x (zk x (.inl hx)) (live x (.inl hx))⟩) _ _ _ (sr.ok i r hr));have hj:j<2:=hj;show (xs++new)[i*2+j]? =xs[i*2+j]?
    rw [List.getElem?_append_left (by omega)]
  . have hr:(q:List (Tp Zct))[i - p.length]? =some r:=by have hr:(p++q)[i]? =some r:=hr;rw [List.getElem?_append_right hi] at hr;exact hr
    refine Zd.congr (fun j hj=>?_) (Zd.ext (fun x hx=>⟨.inl (.inr hx),q3.same x (zk x (.inr hx)) (live x (.inr hx))⟩) _ _ _ (h5 (i - p.length) r hr));show (xs++new)[i*2+j]? =new[(i - p.length)*2+j]?
    rw [List.getElem?_append_right (by omega),hxl,Nat.sub_mul]
    congr 1;omega
end
theorem Zcjt (p:List Seg):Zbj p 0= []:=by cases p<;>rfl
theorem Zcnn (n:Nat):Zbj [] n= []:=by cases n<;>rfl
theorem Zctf {s:Seg} (h:s.1=true) (p:List Seg) (n:Nat):Zbj (s::p) (n+1)=s::Zbj p n:=by simp only [Zbj,h,if_true]
theorem Zcld {s:Seg} (h:s.1=false) (p:List Seg) (n:Nat):Zbj (s::p) (n+1)=(s.1,s.2.take (n+1))::Zbj p (n+1 - min (n+1) s.2.length):=by simp only [Zbj,h];rfl
theorem Zcpx (p q:List Seg):cnt (p++q)=cnt p+cnt q:=by simp [cnt]
theorem Zcea (l:List UInt32) (n:Nat):l.take (min n l.length)=l.take n:=by rcases Nat.le_total n l.length with h | h;rw [Nat.min_eq_left h];rw [Nat.min_eq_right h,List.take_length,List.take_of_length_le h]
section
variable {H0 H:Heap} {F:Nat->Prop} {a:Option Addr} {n c:Nat}
theorem m_j3 {out q:List Seg} (h:PSt H0 H F a n c out) {next:(Int×(Option Addr×Nat×Nat)×Int×Unit)->Heap->Prop} {R:Value->Heap->Prop} {Zm:Nat->Prop} {ma:Option Addr} {mn mc:Nat} (hq:Za Zm H Zbf q (.slice ma mn mc)) (hn:NewZ H0 H Zm [Zba,Zbk]) (hd: ∀x,Zm x->¬F x) (hl:out.length+q.length <= 100000)
    (done: ∀v H',Zit H0 (out++q) v H'->R v H'):Zxi a n c next ma mn mc H R:=by
  unfold Zxi;refine h.join (K:=fun v H'=>∃a n c,v= .slice a n c∧R (.slice a n c) H') hq hn hd hl fun v H' hm=>?_;have hm':=hm;obtain ⟨_,_,_,hc⟩:=hm;obtain ⟨a',n',c',rfl⟩:=Zow hc;exact ⟨a',n',c',rfl,a',n',c',rfl,done _ _ hm'⟩
theorem Zcmh {out four:List Seg} (h:PSt H0 H F a n c out) {next:(Int×(Option Addr×Nat×Nat)×Int×Unit)->Heap->Prop} {R:Value->Heap->Prop} {Zm:Nat->Prop} {ma:Option Addr} {mn mc:Nat} (hq:Za Zm H Zbf four (.slice ma mn mc)) (hn:NewZ H0 H Zm [Zba,Zbk]) (hd: ∀x,Zm x->¬F x) (hl:out.length+four.length <= 50000) (hc:cnt out+cnt four <= 1000000)
    (done: ∀v H',Zit H0 (Zew out four) v H'->R v H'):
    IfB (decide (((n:Int):Int)>0))
      (IfB (decide (((mn:Int):Int)>0))
        (NilP a fun x75q=>InB (IntKind.wrap .i64 ((n:Int) - 1)) n fun x75i=>elemAt x75q x75i 2 fun x75p=>∃x77:Bool,H.cell x75p=some (Value.bool x77)∧
          IfB (!x77) (NilP ma fun x82q=>InB 0 mn fun x82i=>elemAt x82q x82i 2 fun x82p=>∃x84:Bool,H.cell x82p=some (Value.bool x84)∧Zha a n c ma mn mc next (!x84) H R)
            (Zha a n c ma mn mc next false H R))
        (Zha a n c ma mn mc next false H R))
      (Zha a n c ma mn mc next false H R):=by
  have hlen:=h.len;have hmn:mn=four.length:=(Zry (ks:=Zct) hq).1;have plain:Zew out four=out++four->Zha a n c ma mn mc next false H R:=fun e=>by unfold Zha;rw [e] at done;exact ifF rfl (m_j3 h hq hn hd (by omega) done)
  by_cases ho:out= [];subst ho;have:n=0:=hlen;subst this;exact ifF rfl (plain rfl);obtain ⟨m,init,b,l,la,lc,rfl,hm,rfl,hin,q1,q2,q3⟩:=h.lastN ho;rw [List.length_append,List.length_singleton] at hl;rw [Zqg] at hc;simp only at hc;have hlast:(init++[(b,l)]).getLast? =some (b,l):=List.getLast?_concat;refine ifT (decide_eq_true (by omega)) ?_
  match four,hq,hmn,hl,hc,done,plain with
  | [],hq,hmn,hl,hc,done,plain=>
    have hmn:mn=0:=hmn;subst hmn;exact ifF rfl (plain (by unfold Zew;rw [hlast]))
  | t::rest,hq,hmn,hl,hc,done,plain=>
    obtain ⟨b2,o2,sa,sn,sc,rfl,hzb,hbl,r1,r2,r3⟩:=Zbsl hq (i:=0) (x:=t) rfl;simp only [List.length_cons] at hmn hl;have hct:cnt (t::rest)=t.2.length+cnt rest:=by simp [cnt]
    rw [hct] at hc;have hw:IntKind.wrap .i64 ((n:Int) - 1)=(init.length:Int):=by rw [hin,Ze (by omega) (by omega)];omega
    rw [hw];refine ifT (decide_eq_true (by omega)) (NilP.intro _ rfl (InB.intro init.length rfl (by omega) ?_))
    rw [Zez];simp only [Nat.zero_add];refine ⟨b,q1,?_⟩;cases b
    case true=>exact ifF rfl (plain (by unfold Zew;rw [hlast];rfl))
    refine ifT rfl (NilP.intro _ rfl ⟨by omega,by omega,?_⟩)
    show elemAt _ 0 2 _;rw [Zez];refine ⟨t.1,r1,?_⟩;cases ht:t.1
    case true=>exact plain (by unfold Zew;rw [hlast];simp only [ht];rfl)
    have hg:Zew (init++[(false,l)]) (t::rest)=(init++[(false,l++t.2)])++rest:=by unfold Zew;rw [hlast];simp only [ht];show (init++[(false,l)]).dropLast++(false,l++t.2)::rest=_;rw [List.dropLast_concat];simp
    rw [hg] at done;unfold Zha;rw [hw];obtain ⟨rfl,s2,s3,s4⟩:=rd32 r3;refine ifT rfl (NilP.intro _ rfl (InB.intro init.length rfl (by omega) ?_))
    rw [Zez];simp only [Nat.zero_add];refine ⟨_,_,_,q2,NilP.intro _ rfl ⟨by omega,by omega,?_⟩⟩
    show elemAt _ 0 2 _;rw [Zez];refine ⟨_,_,_,r2,q3 (Keep.refl _ _) rfl s4 (by omega) fun la' lc' H17 st k17=>⟨_,_,_,rfl,NilP.intro _ rfl (InB.intro init.length rfl (by omega) ?_)⟩⟩
    rw [Zez];simp only [Nat.zero_add];refine st _ fun H18 F' p18 fr k18=>⟨by omega,by omega,?_⟩
    have hd18: ∀x,Zm x->H18 x=H x:=fun x hx=>k18.same x (hd x hx) (hn.live x hx);have hq18:Za Zm H18 Zbf (t::rest) (.slice (some ⟨b2,o2,none⟩) mn mc):=Za.ext (fun x hx=>⟨hx,hd18 x hx⟩) _ _ _ hq;have hdr:=Zbpz (ks:=Zct) (xs:=(t::rest:List Seg)) (k:=1) hq18 (by omega)
    refine m_j3 p18 (q:=rest) hdr (hn.keep k18 hd) (fun x hx hf=>?_) (by rw [List.length_append,List.length_singleton];omega) done
    rcases fr x hf with e | e;exact hd x hx e;exact hn.live x hx e
end
theorem Zcut {H0:Heap} {Z:Nat->Prop} {two four:List Seg} {v2 v4:Value} (hy:Lyd H0) (hz: ∀x,Z x->H0 x≠none) (h2:Za Z H0 Zbf two v2) (h4:Za Z H0 Zbf four v4) (hl:two.length+cnt two <= 8000) (hl4:four.length+cnt four <= 8000):
    FnW Tryz.prog Znq ⟨[v2,v4]⟩ H0 (Zit H0 (Zbv two four)):=by
  obtain ⟨ta,tn,tc,rfl⟩:=Zow h2;obtain ⟨fa,fn,fc,rfl⟩:=Zow h4;have htn:tn=two.length:=(Zry (ks:=Zct) h2).1;have htc:tn <= tc∧tc <= Zj:=(Zry (ks:=Zct) h2).2;refine Zcaf _ _ _ _ _ _ ?_;generalize hR:(fun v H'=>∀H'',Shut H0 H' H''->Zit H0 (Zbv two four) v H'')=R;have done: ∀v H',Zit H0 (Zbv two four) v H'->R v H':=fun v H' hm=>by rw [← hR];exact fun H2 hs=>hm.shut hs
  clear hR;have le2:=Zkd two;have le4:=Zkd four;have keepC: ∀{p:List Seg} {v:Value} {H':Heap},Keep Nil H0 H'->Za Z H0 Zbf p v->Za Z H' Zbf p v:=fun k h=>Za.ext (fun x hx=>⟨hx,k.same x (fun h=>h) (hz x hx)⟩) _ _ _ h;have len2: ∀s∈two,s.2.length <= 100000:=fun s hs=>by have:=Zjz hs;omega
  have len4: ∀s∈four,s.2.length <= 100000:=fun s hs=>by have:=Zjz hs;omega
  unfold Zbbl;refine (Zboo hy hz h2 (by omega)).mono fun v H1 hv=>?_
  obtain ⟨k1,rfl⟩:=hv;refine ⟨_,rfl,(Zboo (hy.keep k1) (fun x hx=>k1.live x (hz x hx)) (keepC k1 h4) (by omega)).mono fun v H2 hv=>?_⟩
  obtain ⟨k2,rfl⟩:=hv;have k02:=k1.trans k2;refine ⟨_,rfl,?_⟩;rw [Ze (n:=(lenP two:Int) - (lenP four:Int)) (by omega) (by omega)]
  unfold Zbv at done;by_cases hlt:lenP two<lenP four
  . rw [if_pos hlt] at done;refine ifT (decide_eq_true (by omega)) ((Zbgc (fun x hx=>k02.live x (hz x hx)) (keepC k02 h2) (by omega) len2).mono fun v H3 hv=>?_)
    obtain ⟨F,a,n,c,rfl,ps⟩:=hv;have ps:=ps.mono k02 (k02.trans ps.keep);obtain ⟨z1,z2⟩:=ps.frz;exact ⟨_,_,_,rfl,done _ _ ⟨ps.keep,F,z1,z2⟩⟩
  rw [if_neg hlt] at done;have hsub:(lenP two:Int) - (lenP four:Int)=((lenP two - lenP four:Nat):Int):=by omega
  rw [hsub];obtain ⟨f1,f2⟩:=Zpg two (lenP two - lenP four);have hL:lenP two - lenP four <= 10000:=by omega
  generalize lenP two - lenP four=L at*;refine ifF (decide_eq_false (by omega)) (Zlh fun ob H4 f4 k4 b4=>?_)
  have k04:=k02.trans k4;have ps0:=PSt.start (k02.free f4) b4 k04;refine ⟨fun k x H=>∃(i left:Nat) (out:List Seg) (F:Nat->Prop) (a:Option Addr) (n c:Nat),x=((left:Int),((a,n,c),((i:Int),())))∧k=two.length - i∧i <= two.length∧left <= L∧out++Zbj (two.drop i) left=Zbj two L∧PSt H0 H F a n c out,two.length,⟨0,L,[],_,_,0,0,rfl,rfl,Nat.zero_le _,Nat.le_refl _,rfl,ps0⟩,?_⟩;rintro k x H ⟨i,left,out,F,a,n,c,rfl,rfl,hi,hleft,hout,ps⟩ g;have hol:out.length <= two.length:=by have:=congrArg List.length hout;rw [List.length_append] at this;omega
  have hoc:cnt out <= cnt two:=by have:=congrArg cnt hout;rw [Zcpx] at this;omega
  have kk:=ps.keep;have hzH: ∀x,Z x->H x≠none:=fun x hx=>kk.live x (hz x hx)
  have fin:out=Zbj two L->Zse ta tn tc fa fn fc (left:Int) a n c (i:Int) (fun x' H'=>∃k',k'<two.length - i∧∃(i left:Nat) (out:List Seg) (F:Nat->Prop) (a:Option Addr) (n c:Nat),x'=((left:Int),((a,n,c),((i:Int),())))∧k'=two.length - i∧i <= two.length∧left <= L∧out++Zbj (two.drop i) left=Zbj two L∧PSt H0 H' F a n c out) false H R:=fun e=>by
    unfold Zse;refine ifF rfl ((Zbgc hzH (keepC kk h4) (by omega) len4).mono fun v H5 hv=>?_)
    obtain ⟨Fm,ma,mn,mc,rfl,pm⟩:=hv;have pk:=ps.kept pm.keep;have pm0:=pm.mono kk pk.keep;obtain ⟨z1,z2⟩:=pm0.frz;refine ⟨_,_,_,rfl,Zcmh pk z2 z1 (fun x hx hf=>?_) (by omega) (by omega) ?_⟩
    exact ps.live hf (pm.new hx).1;rw [e];exact done
  show Zbei ta tn tc fa fn fc (left:Int) a n c (i:Int) H _ R;unfold Zbei;by_cases hin:i<two.length
  case neg=>
    refine ifF (decide_eq_false (by omega)) (fin ?_)
    rw [List.drop_eq_nil_of_le (by omega),Zcnn,List.append_nil] at hout
    exact hout
  refine ifT (decide_eq_true (by omega)) ?_
  by_cases hl0:left=0;subst hl0;rw [Zcjt,List.append_nil] at hout;exact fin hout;clear fin;rw [decide_eq_true (show (left:Int)>0 by omega)]
  obtain ⟨lf,rfl⟩: ∃lf,left=lf+1:=⟨left - 1,by omega⟩
  have hd:two.drop i=two[i]::two.drop (i+1):=List.drop_eq_getElem_cons hin;have hm:=Zjz (p:=two) (s:=two[i]) (List.getElem_mem hin);have hw1:IntKind.wrap .i64 ((i:Int)+1)=((i+1:Nat):Int):=by rw [Ze (by omega) (by omega)];omega
  unfold Zse;rw [hw1];refine ifT rfl ⟨by omega,by omega,?_⟩
  simp only [Int.toNat_natCast];refine ⟨by omega,by omega,?_⟩
  simp only [Int.toNat_natCast];have one:=Zbpz (ks:=Zct) (k:=i) (Zcrn (ks:=Zct) (k:=i+1) (keepC kk h2) (by omega)) (by omega)
  have e1:(two.take (i+1)).drop i= [two[i]]:=by
    have:two.take (i+1)=two.take i++[two[i]]:=by rw [List.take_add_one,List.getElem?_eq_getElem hin];rfl
    rw [this];exact List.drop_left' (by rw [List.length_take];omega)
  have one:Za Z H Zbf [two[i]] (.slice (if tc=i then ta else Option.map (fun q=>Addr.add q (i*2)) ta) (i+1 - i) (tc - i)):=Eq.mp (congrArg (fun z:List Seg=>Za Z H Zbf z (.slice (if tc=i then ta else Option.map (fun q=>Addr.add q (i*2)) ta) (i+1 - i) (tc - i))) e1) one
  clear e1;generalize hs:two[i]=s at*;obtain ⟨sb,sl⟩:=s;simp only at hm
  refine (Zbgc (p:=[(sb,sl)]) hzH one (by show 1 <= 10000;omega) (fun s hs=>by
    have hs:s=(sb,sl):=List.mem_singleton.1 hs;rw [hs];show sl.length <= _;omega)).mono fun v H7 hv=>?_
  obtain ⟨F7,a7,n7,c7,rfl,p7⟩:=hv;obtain ⟨m7,la,lc,rfl,rfl,hm7,q1,q2,own7,hlc⟩:=p7.single;have k7:=p7.keep;refine ⟨_,_,_,rfl,NilP.intro _ rfl ⟨by omega,by omega,?_⟩⟩
  show elemAt _ 0 2 _;rw [Zez];refine ⟨sb,q1,_,_,_,q2,Zlh fun tb H8 f8 k8 b8=>?_⟩;refine Zfp (b:=tb) [.bool sb,.slice la sl.length lc] 0 [] [.bool false,.slice none 0 0] H8 b8 rfl rfl (by simp [Zbl]) fun H10 b10 o10=>?_
  have b10:Blk H10 tb Zbk ⟨[.bool sb,.slice la sl.length lc]⟩:=b10;have k710:Keep Nil H7 H10:=Zdz k8 (Zfb b10 o10) fun x hx=>by subst hx;exact f8
  have own10:Sh.Own H0 H10 la sl.length lc 1 Zba (v32 sl):=(Zdd own7 k710 fun _ h=>h.elim).mono kk;have laF: ∀m,la=some ⟨m,0,none⟩->¬F m:=fun m e hf=>ps.live hf (own7.free e);have ps10:=ps.kept (k7.trans k710);have put: ∀{H11:Heap} {k lf':Nat},PSt H0 H11 F a n c out->Blk H11 tb Zbk ⟨[.bool sb,.slice la k lc]⟩->k <= sl.length->Sh.Own H0 H11 la sl.length lc 1 Zba (v32 sl)->lf' <= L->(out++[(sb,sl.take k)])++Zbj (two.drop (i+1)) lf'=Zbj two L->
      Zut ta tn tc fa fn fc a n c (i:Int) tb (fun x' H'=>∃k',k'<two.length - i∧∃(i left:Nat) (out:List Seg) (F:Nat->Prop) (a:Option Addr) (n c:Nat),x'=((left:Int),((a,n,c),((i:Int),())))∧k'=two.length - i∧i <= two.length∧left <= L∧out++Zbj (two.drop i) left=Zbj two L∧PSt H0 H' F a n c out) (lf':Int) H11 R:=fun {H11 k lf'} p11 b11 hk own11 hlf he=>by
    unfold Zut;rw [hw1];have ot:=Zcpd own11 hk;rw [Zccc] at ot;have hkl:(sl.take k).length=k:=by rw [List.length_take];omega
    refine ⟨_,Zr b11 0 rfl,_,_,_,Zr b11 1 rfl,Zlh fun xb H12 f12 k12 b12=>?_⟩;refine (p11.kept k12).put (l:=sl.take k) (lc:=lc) (b:=sb) (by omega) (by rw [hkl];exact b12) (by rw [hkl];exact Zdd ot k12 fun _ h=>h.elim) laF hlc fun a' c' H13 F' t1 t2 t3=>⟨_,_,_,rfl,two.length - (i+1),by omega,i+1,lf',_,F',a',n+1,c',rfl,rfl,by omega,hlf,he,t1⟩
  rw [hd] at hout;refine ⟨sb,Zr b10 0 rfl,?_⟩;cases sb
  . rw [Zcld rfl,show ∀(x:Seg) (r:List Seg),out++x::r=(out++[x])++r from fun x r=>by simp] at hout
    simp only at hout;have hmin:min ((lf+1:Nat):Int) (sl.length:Int)=((min (lf+1) sl.length:Nat):Int):=by omega
    refine ifF rfl ⟨_,_,_,Zr b10 1 rfl,_,_,_,Zr b10 1 rfl,?_⟩;rw [hmin];have hol2:=own10.le;refine ⟨by omega,by omega,?_⟩
    simp only [Int.toNat_natCast];refine Zb.blk b10 (by simp) rfl ?_
    have eset:(⟨[Value.bool false,.slice la sl.length lc]⟩:Array Value).setIfInBounds 1 (.slice la (min (lf+1) sl.length) lc)=⟨[Value.bool false,.slice la (min (lf+1) sl.length) lc]⟩:=by apply Array.ext';simp
    rw [eset];have hb14:Blk (H10.upd tb (.cells ⟨[Value.bool false,.slice la (min (lf+1) sl.length) lc]⟩ Zbk (0,0))) tb Zbk ⟨[Value.bool false,.slice la (min (lf+1) sl.length) lc]⟩:=Blk.upd_eq;have ho14: ∀y,y≠tb->(H10.upd tb (.cells ⟨[Value.bool false,.slice la (min (lf+1) sl.length) lc]⟩ Zbk (0,0))) y=H10 y:=fun y hy=>Sh.upd_ne hy;generalize H10.upd tb (.cells ⟨[Value.bool false,.slice la (min (lf+1) sl.length) lc]⟩ Zbk (0,0))=H14 at hb14 ho14;have k14:=Zfb hb14 ho14;have tb0:H0 tb=none:=(kk.trans k7).free f8;have tbla: ∀x,x=tb->la≠some ⟨x,0,none⟩:=fun x hx e=>by subst hx;obtain ⟨q,h1⟩:=own10.live e;exact absurd (Zhs h1 b10) (by decide)
    have tbF: ¬F tb:=fun hf=>(k7.live tb (ps.live hf)) f8;refine ⟨_,_,_,Zr hb14 1 rfl,?_⟩;have hwl:IntKind.wrap .i64 (((lf+1:Nat):Int) - ((min (lf+1) sl.length:Nat):Int))=((lf+1 - min (lf+1) sl.length:Nat):Int):=by rw [Ze (by omega) (by omega)];omega
    rw [hwl];refine put (ps10.step (S:=fun x=>x=tb) k14 fun x hx=>by subst hx;exact ⟨tb0,tbF⟩) hb14 (by omega) (Zdd own10 k14 tbla) (by omega) ?_
    rw [Zcea];exact hout
  . rw [Zctf rfl,show ∀(x:Seg) (r:List Seg),out++x::r=(out++[x])++r from fun x r=>by simp] at hout
    have hwl:IntKind.wrap .i64 (((lf+1:Nat):Int) - 1)=(lf:Int):=by rw [Ze (by omega) (by omega)];omega
    rw [hwl];refine ifT rfl (put ps10 b10 (Nat.le_refl _) own10 (by omega) ?_)
    rw [List.take_length];exact hout
abbrev Zctt:List Pk:=[Pk.lst Zct,Pk.lst Zct]
abbrev Zcbk:List Pk:=[Pk.lst Zct]
def Zckt (p q:List Seg) (K:List Seg->Prop):Prop:=p.length+cnt p <= 8000∧q.length+cnt q <= 8000∧K (Zbv p q)
theorem Zcuy:FnQ Tryz.prog Znq Zctt Zcbk (fun x K=>Zckt x.1 x.2.1 (fun r0=>K (r0,()))):=by
  refine Zyq rfl (fun _=>rfl) fun x K hx H Z vs hsl hz hlay hlo=>?_;obtain ⟨p,q,_⟩:=x;obtain ⟨h1,h2,hk⟩:=hx;change List Seg at p;change List Seg at q;have hsl':SimL (gZ Z) H 0 [.lst Zct p,.lst Zct q] vs:=hsl
  match vs,hsl' with
  | [v0,v1],hsl'=>
  simp only [SimL,SimV,and_true] at hsl';refine (Zcut ⟨hlay,hlo⟩ hz hsl'.1 hsl'.2 h1 h2).mono fun v H' hv=>?_;obtain ⟨k,Zn,hf,hc⟩:=hv;refine ⟨k,(Zbv p q,()),Zn,hk,hf.fresh,?_⟩;show SimV (gZ fun b=>Z b∨Zn b) H' 0 (.lst Zct (Zbv p q)) _;simp only [SimV];exact Za.ext (fun x hx=>⟨.inr hx,rfl⟩) _ _ _ hc
end Go.Proofs.YthdffaojeghaeaaGreatDoor
end
section
set_option maxRecDepth 100000
namespace Go.Proofs.YthdffaojeghaeaaGreatDoor
open Go.Sh
theorem Zcbw {H:Heap} {Z:Nat->Prop} {p q:List Seg} {vp vq:Value} (hz: ∀x,Z x->H x≠none) (hy:Lyd H) (hp:Za Z H Zbf p vp) (hq:Za Z H Zbf q vq) (h2:p.length+cnt p <= 8000) (h4:q.length+cnt q <= 8000):
    FnW Tryz.prog Znq ⟨[vp,vq]⟩ H fun r H'=>Keep Nil H H'∧∃Zn,Zbi H H' Zn∧Za (Or2 Z Zn) H' Zbf (Zbv p q) r:=by
  refine (FnQ.runZ (x:=(p,q,())) Zcuy rfl rfl (Z:=Z) ?_ hz hy.live hy.ok (K:=fun r=>r.1=Zbv p q) ⟨h2,h4,rfl⟩).mono fun r H' hk=>?_;simp only [pksA,pkA,SimL,SimV,and_true];exact ⟨hp,hq⟩;obtain ⟨k,y1,Zn,h1,_,hf,h3⟩:=hk;obtain ⟨m,u⟩:=y1;simp only at h1;subst h1;simp only [pksA,pkA,outA,SimV] at h3;exact ⟨k,Zn,hf,h3⟩
theorem Zvo {x:Nat} {m:Nat}:((x:Int)==(m:Int))=decide (x=m):=by by_cases e:x=m;subst e;simp;rw [decide_eq_false e];exact beq_eq_false_iff_ne.2 fun h=>e (by omega)
section
variable {Z:Nat->Prop} {H Hb Hx:Heap} {b m1 m2:Nat} {four told:Bool} {s:RdS} {d:List UInt8}
theorem yj7 (hz: ∀x,Z x->H x≠none) (kb:Keep Nil H Hb) (hb1:Blk Hb m1 Zcu ⟨zrA⟩) (hb2:Blk Hb m2 Zdq ⟨zrF⟩) (f1:H m1=none) (f2:H m2=none) {A:Zo} (hr:Ry Z Hb Hx b four (s.put A)) (og:0 <= A.origin∧A.origin <= 2) (hw:s.worst <= 2)
    {R:Value->Heap->Prop} (done: ∀v H1,Zeq Z H (A,s.worst,none) v H1->R v H1) {next:(Int×Unit)->Heap->Prop}:Zkm m1 m2 b next Hx R:=by
  have n12:m1≠m2:=fun e=>absurd (Zhs (e▸hb1:Blk Hb m2 Zcu ⟨zrA⟩) hb2) (by decide)
  have hwr:InR .i64 (s.worst:Int):=Zfz (by omega) (by omega)
  obtain ⟨Zn,vp,ca,cc,oa,oc,seen,v4,vm,h4,x3⟩:=hr;have n1b:m1≠b:=fun e=>hb1.some (e▸x3.at_.bn);have d1:=x3.at_.keep.blk hb1 fun h=>h.elim;have d2:=x3.at_.keep.blk hb2 fun h=>h.elim;obtain ⟨pa,pn,pc,rfl⟩: ∃pa pn pc,vp= .slice pa pn pc:=by have hp:=x3.at_.path;simp only [Za] at hp;obtain ⟨pa,pn,pc,e,_⟩:=hp;exact ⟨pa,pn,pc,e⟩
  unfold Zkm;refine ⟨[b],fun y hym=>by rw [List.mem_singleton] at hym;subst hym;exact ⟨_,x3.blk⟩,?_⟩
  refine ⟨_,x3.get 0 rfl,pa,pn,pc,x3.get 1 rfl,_,x3.get 2 rfl,_,x3.get 3 rfl,_,x3.get 4 rfl,_,x3.get 5 rfl,_,x3.get 6 rfl,_,x3.get 7 rfl,_,x3.get 8 rfl,_,x3.get 9 rfl,_,x3.get 10 rfl,_,_,_,x3.get 11 rfl,_,_,_,x3.get 12 rfl,by simp,_,x3.get 13 rfl,?_⟩
  refine Zfp (b:=m1) (attV A (.slice pa pn pc) ca cc oa oc) 0 [] zrA Hx d1 rfl rfl (by simp [attV,Zbl]) fun H5 e1 o1=>?_
  refine ⟨fun y hym=>?_,?_⟩;rw [List.mem_singleton] at hym;subst hym;exact ⟨⟨_,x3.blk⟩,o1 _ (Ne.symm n1b)⟩;have e2:Blk H5 m2 Zdq ⟨zrF⟩:=d2.same (o1 m2 (Ne.symm n12));refine Zfp (b:=m2) zrF 0 [] zrF H5 e2 rfl rfl (by decide) fun H6 g2 o2=>?_
  have e1:Blk H5 m1 Zcu ⟨attV A (.slice pa pn pc) ca cc oa oc⟩:=e1;have g2:Blk H6 m2 Zdq ⟨zrF⟩:=g2;have g1:Blk H6 m1 Zcu ⟨attV A (.slice pa pn pc) ca cc oa oc⟩:=e1.same (o2 m1 n12);have k6:Keep Nil H H6:=Zdz (Zdz (kb.trans x3.at_.keep) (Zfb e1 o1) fun y hy=>by subst hy;exact f1) (Zfb g2 o2) fun y hy=>by subst hy;exact f2
  have y: ∀j:Nat,H6.cell ⟨m1,j,none⟩=(attV A (.slice pa pn pc) ca cc oa oc)[j]? :=fun j=>by rw [g1.cell];simp
  have z: ∀j:Nat,H6.cell ⟨m2,j,none⟩=zrF[j]? :=fun j=>by rw [g2.cell];simp
  refine ⟨_,y 0,_,_,_,y 1,_,y 2,_,y 3,_,y 4,_,y 5,_,y 6,_,y 7,_,y 8,_,y 9,_,y 10,_,_,_,y 11,_,_,_,y 12,0,z 0,0,z 1,none,0,0,z 2,done _ _ ?_⟩;obtain ⟨xs,ownO,hcO⟩:=x3.at_.others;have ownC:=x3.at_.comms;have same: ∀y,y≠m1->y≠m2->H6 y=Hx y:=fun y h1 h2=>by rw [o2 y h2,o1 y h1]
  have k36:Keep (fun y=>y=m1∨y=m2) Hx H6:=⟨fun y hy _=>same y (fun e=>hy (.inl e)) fun e=>hy (.inr e),fun y hy=>by
    by_cases h1:y=m1;subst h1;exact g1.some
    . by_cases h2:y=m2;subst h2;exact g2.some
      . rw [same y h1 h2];exact hy⟩
  have ne12: ∀y,Hb y=none->y≠m1∧y≠m2:=fun y hy=>⟨fun e=>hb1.some (e▸hy),fun e=>hb2.some (e▸hy)⟩;have zne: ∀y,Or2 Z Zn y->y≠m1∧y≠m2:=fun y hy=>hy.elim (fun h=>⟨fun e=>hz y h (e▸f1),fun e=>hz y h (e▸f2)⟩) fun h=>ne12 y (x3.at_.new y h).1
  let Zf:Nat->Prop:=fun y=>Zn y∨ca=some ⟨y,0,none⟩∨oa=some ⟨y,0,none⟩
  have zext: ∀y,Or2 Z Zn y->(Z y∨Zf y)∧H6 y=Hx y:=fun y hy=>⟨hy.elim .inl fun h=> .inr (.inl h),same y (zne y hy).1 (zne y hy).2⟩;have ownC6:=Zdd ownC k36 fun y hy e=>by have:=ne12 y (ownC.free e);rcases hy with h | h;exact this.1 h;exact this.2 h
  have ownO6:=Zdd ownO k36 fun y hy e=>by have:=ne12 y (ownO.free e);rcases hy with h | h;exact this.1 h;exact this.2 h
  have hfr:Zbi H H6 Zf:=fun y hy=>by
    rcases hy with hy | hy | hy;obtain ⟨q1,q2,q3⟩:=x3.at_.new y hy;have:=ne12 y q1;rw [same y this.1 this.2];exact ⟨kb.free q1,q2,q3⟩;obtain ⟨cx,hcx⟩:=ownC6.live hy;exact ⟨kb.free (ownC.free hy),hcx.some,fun ds e=>by unfold Blk at hcx;rw [hcx] at e;cases e⟩
    obtain ⟨cx,hcx⟩:=ownO6.live hy;exact ⟨kb.free (ownO.free hy),hcx.some,fun ds e=>by unfold Blk at hcx;rw [hcx] at e;cases e⟩
  refine ⟨k6,Zf,hfr,?_⟩;refine Zqr (Zbwh (Z:=fun b=>Z b∨Zf b) (a:=A) (vp:= .slice pa pn pc) (Zfz (by omega) (by omega)) (Za.ext zext _ _ _ x3.at_.path) ?_ ?_) hwr Zbdn
  refine Zjw (ks:=[.int .u32]) ownC6 rfl (fun i r hr=>?_) x3.at_.clt fun m hm=> .inr (.inr (.inl hm));have hr':A.comms[i]? =some r:=hr;simp only [Zd,Za,and_true];refine ⟨.int .u32 ((r:UInt32).toNat:Int),?_,rfl,trivial⟩;show (A.comms.map fun x=>Value.int .u32 (x.toNat:Int))[i*1+0]? =_;rw [Nat.mul_one,Nat.add_zero,List.getElem?_map,hr'];rfl;exact Zjw (ks:=Ziz) ownO6 rfl (fun i r hr=>Zd.ext zext _ _ _ (hcO i r hr)) x3.at_.olt fun m hm=> .inr (.inr (.inr hm))
theorem Zbya (hz: ∀x,Z x->H x≠none) (kb:Keep Nil H Hb) (hb1:Blk Hb m1 Zcu ⟨zrA⟩) (hb2:Blk Hb m2 Zdq ⟨zrF⟩) (f1:H m1=none) (f2:H m2=none) (kx:Keep Nil Hb Hx) {Zn:Nat->Prop} (hf:Zbi H Hx Zn) (hzn: ∀x,Zn x->Hb x=none) {w c1 c2:Int} {va:Option Addr} {vn vc:Nat} {dd:List UInt8} (hw:InR .i64 w) (hc1:InR .i64 c1) (hc2:InR .i64 c2) (hv:Za (Or2 Z Zn) Hx Zp dd (.slice va vn vc)) {K:Heap->Prop}
    (hk: ∀H6,Blk H6 m1 Zcu ⟨zrA⟩->Blk H6 m2 Zdq ⟨[.int .i64 c1,.int .i64 c2,.slice va vn vc]⟩->(Keep Nil H H6∧∃Zn:Nat->Prop,Zbi H H6 Zn∧SimV (gZ fun b=>Z b∨Zn b) H6 0 (.tup [.agg (lvT ksAt Zfs),.int .i64 w,.agg (lvT ksFt (c1,c2,dd))]) (.tuple ⟨[.agg ⟨zrA⟩,.int .i64 w,.agg ⟨[.int .i64 c1,.int .i64 c2,.slice va vn vc]⟩]⟩))->K H6):
    Zb Hx ⟨m1,0,none⟩ (.int .i64 0) fun H11=>Zb H11 ⟨m1,1,none⟩ (.slice none 0 0) fun H12=>Zb H12 ⟨m1,2,none⟩ (.int .u32 0) fun H13=>Zb H13 ⟨m1,3,none⟩ (.bool false) fun H14=>Zb H14 ⟨m1,4,none⟩ (.int .u32 0) fun H15=>Zb H15 ⟨m1,5,none⟩ (.bool false) fun H16=>Zb H16 ⟨m1,6,none⟩ (.int .u32 0) fun H17=>Zb H17 ⟨m1,7,none⟩ (.bool false) fun H18=>Zb H18 ⟨m1,8,none⟩ (.bool false) fun H19=>Zb H19 ⟨m1,9,none⟩ (.int .u32 0) fun H20=>Zb H20 ⟨m1,10,none⟩ (.int .u32 0) fun H21=>Zb H21 ⟨m1,11,none⟩ (.slice none 0 0) fun H22=>Zb H22 ⟨m1,12,none⟩ (.slice none 0 0) fun H23=>
      Zb H23 ⟨m2,0,none⟩ (.int .i64 c1) fun H24=>Zb H24 ⟨m2,1,none⟩ (.int .i64 c2) fun H25=>Zb H25 ⟨m2,2,none⟩ (.slice va vn vc) K:=by
  have n12:m1≠m2:=fun e=>absurd (Zhs (e▸hb1:Blk Hb m2 Zcu ⟨zrA⟩) hb2) (by decide)
  have d1:=kx.blk hb1 fun h=>h.elim;have d2:=kx.blk hb2 fun h=>h.elim;refine Zfp (b:=m1) zrA 0 [] zrA Hx d1 rfl rfl (by decide) fun H5 e1 o1=>?_
  have e2:Blk H5 m2 Zdq ⟨zrF⟩:=d2.same (o1 m2 (Ne.symm n12));refine Zfp (b:=m2) [.int .i64 c1,.int .i64 c2,.slice va vn vc] 0 [] zrF H5 e2 rfl rfl (by simp [Zbl]) fun H6 g2 o2=>?_
  have e1:Blk H5 m1 Zcu ⟨zrA⟩:=e1;have g2:Blk H6 m2 Zdq ⟨[.int .i64 c1,.int .i64 c2,.slice va vn vc]⟩:=g2;have g1:Blk H6 m1 Zcu ⟨zrA⟩:=e1.same (o2 m1 n12);have k6:Keep Nil H H6:=Zdz (Zdz (kb.trans kx) (Zfb e1 o1) fun y hy=>by subst hy;exact f1) (Zfb g2 o2) fun y hy=>by subst hy;exact f2
  have same: ∀y,y≠m1->y≠m2->H6 y=Hx y:=fun y h1 h2=>by rw [o2 y h2,o1 y h1]
  have ne2: ∀y,Zn y->y≠m1∧y≠m2:=fun y hy=>⟨fun e=>hb1.some (e▸hzn y hy),fun e=>hb2.some (e▸hzn y hy)⟩;refine hk H6 g1 g2 ⟨k6,Zn,fun y hy=>?_,?_⟩;obtain ⟨q1,q2,q3⟩:=hf y hy;rw [same y (ne2 y hy).1 (ne2 y hy).2];exact ⟨q1,q2,q3⟩;refine Zqr Zbhv hw ?_;show SimL _ H6 0 [.int .i64 c1,.int .i64 c2,.lst [Kd.int .u8] dd] _;simp only [SimL,SimV,and_true];refine ⟨⟨trivial,hc1⟩,⟨trivial,hc2⟩,Za.ext (fun y hy=>⟨hy,?_⟩) _ _ _ hv⟩;rcases hy with hy | hy;exact same y (fun e=>hz y hy (e▸f1)) (fun e=>hz y hy (e▸f2));exact same y (ne2 y hy).1 (ne2 y hy).2
theorem Zbeb (hz: ∀x,Z x->H x≠none) (kb:Keep Nil H Hb) (hy:Lyd Hb) (hr:Ry Z Hb Hx b four s) (hi:InvS s) (hb1:Blk Hb m1 Zcu ⟨zrA⟩) (hb2:Blk Hb m2 Zdq ⟨zrF⟩) (f1:H m1=none) (f2:H m2=none) (hl:Zce four d.length d rd0=(s,none)) {R:Value->Heap->Prop} (done: ∀v H1,Zeq Z H (Zbp four told d) v H1->R v H1) {next:(Int×Unit)->Heap->Prop}:
    Zkf told m1 m2 b next Hx R:=by
  have hzb: ∀x,Z x->Hb x≠none:=fun x hx=>kb.live x (hz x hx);have spec:Zbp four told d=(if 2 <= (if told=true∧¬(1∈s.seen∧2∈s.seen∧3∈s.seen) then s.found 2 else s).worst then (Zfs,(if told=true∧¬(1∈s.seen∧2∈s.seen∧3∈s.seen) then s.found 2 else s).worst,none) else (Zdm (if told=true∧¬(1∈s.seen∧2∈s.seen∧3∈s.seen) then s.found 2 else s),(if told=true∧¬(1∈s.seen∧2∈s.seen∧3∈s.seen) then s.found 2 else s).worst,none)):=by unfold Zbp;rw [hl]
  have j2: ∀(s':RdS) (H2:Heap),s'=(if told=true∧¬(1∈s.seen∧2∈s.seen∧3∈s.seen) then s.found 2 else s)->InvS s'->Ry Z Hb H2 b four s'->Zyb m1 m2 b next H2 R:=by
    intro s' H2 hs' hi' hr';rw [← hs'] at spec;have hw:=hi'.w;have hr2:=hr';obtain ⟨Zn,vp,ca,cc,oa,oc,seen,v4,vm,h4,x⟩:=hr';unfold Zyb;refine ⟨_,x.get 13 rfl,?_⟩;unfold Zbty;have e2:(((s'.worst:Nat):Int)==2)=decide (s'.worst=2):=Zvo;rw [e2];refine IfB.intro (fun h2=>?_) fun h2=>?_
    . have h2:=of_decide_eq_true h2;rw [if_pos (by omega),h2] at spec
      refine Zbya (Zn:=fun _=>False) (dd:=[]) (w:=2) hz kb hb1 hb2 f1 f2 x.at_.keep Zbi.none (fun _ h=>h.elim) (Zfz (by decide) (by decide)) (Zfz (by decide) (by decide)) (Zfz (by decide) (by decide)) Zky fun H6 g1 g2 hres=>?_
      have y: ∀j:Nat,H6.cell ⟨m1,j,none⟩=zrA[j]? :=fun j=>by rw [g1.cell];simp
      have z: ∀j:Nat,H6.cell ⟨m2,j,none⟩= [Value.int .i64 0,.int .i64 0,.slice none 0 0][j]? :=fun j=>by rw [g2.cell];simp
      refine ⟨0,y 0,none,0,0,y 1,0,y 2,false,y 3,0,y 4,false,y 5,0,y 6,false,y 7,false,y 8,0,y 9,0,y 10,none,0,0,y 11,none,0,0,y 12,0,z 0,0,z 1,none,0,0,z 2,done _ _ ?_⟩;rw [spec];exact hres
    have h2:=of_decide_eq_false h2;rw [if_neg (by omega)] at spec
    have og:=hi'.og;have mspec:Zdm s'=if s'.a.hasMaker=true∧s'.a.makerAS≠23456 then s'.a else
      (s'.a.origin,(match s'.p4 with | some q=>if Zbs (Zbv s'.a.path q)=true then Zbv s'.a.path q else s'.a.path | none=>s'.a.path),s'.a.next,s'.a.hasMed,s'.a.med,s'.a.hasLocal,s'.a.loc,s'.a.atomic,s'.a.hasMaker,
        (match s'.a.hasMaker,s'.m4 with | true,some m=>m | _,_=>(s'.a.makerAS,s'.a.maker)).1,(match s'.a.hasMaker,s'.m4 with | true,some m=>m | _,_=>(s'.a.makerAS,s'.a.maker)).2,s'.a.comms,s'.a.others):=rfl
    have j7: ∀(A:Zo) (H7:Heap),A=Zdm s'->0 <= A.origin∧A.origin <= 2->Ry Z Hb H7 b four (s'.put A)->Zkm m1 m2 b next H7 R:=fun A H7 hA ho hr7=>
      yj7 hz kb hb1 hb2 f1 f2 hr7 ho hw fun v H1 hres=>done v H1 (by rw [spec,← hA];exact hres)
    have j6: ∀(mm:UInt32×UInt32) (H7:Heap),¬(s'.a.hasMaker=true∧s'.a.makerAS≠23456)->mm=(match s'.a.hasMaker,s'.m4 with | true,some m=>m | _,_=>(s'.a.makerAS,s'.a.maker))->Ry Z Hb H7 b four (s'.put (s'.a.origin,s'.a.path,s'.a.next,s'.a.hasMed,s'.a.med,s'.a.hasLocal,s'.a.loc,s'.a.atomic,s'.a.hasMaker,mm.1,mm.2,s'.a.comms,s'.a.others))->
        Zud m1 m2 b next H7 R:=by
      intro mm H7 hn hm hx;rw [if_neg hn,← hm] at mspec;have hx2:=hx;obtain ⟨Zn,vp,ca,cc,oa,oc,seen,v4,vm,h4,x7⟩:=hx;unfold Zud;have p4:=x7.p4;refine ⟨h4,x7.get 271 (by rw [show (271:Nat)=270+1 from rfl,Ziv x7.seen.1];rfl),?_⟩
      cases hp4:s'.p4 with
      | none=>
        rw [hp4] at mspec;have p4:P4 (Or2 Z Zn) H7 s'.p4 v4 h4:=p4;rw [hp4] at p4;rw [p4.1];exact ifF rfl (j7 _ H7 mspec.symm og hx2)
      | some q=>
        rw [hp4] at mspec;simp only at mspec;have p4:P4 (Or2 Z Zn) H7 s'.p4 v4 h4:=p4;rw [hp4] at p4;have p42:=p4.2;rw [p4.1];obtain ⟨pa,pn,pc,rfl⟩: ∃pa pn pc,vp= .slice pa pn pc:=by have:=x7.at_.path;simp only [Za] at this;obtain ⟨pa,pn,pc,e,_⟩:=this;exact ⟨pa,pn,pc,e⟩
        obtain ⟨qa,qn,qc,rfl⟩: ∃qa qn qc,v4= .slice qa qn qc:=by have:=p42;simp only [Za] at this;obtain ⟨pa,pn,pc,e,_⟩:=this;exact ⟨pa,pn,pc,e⟩
        have l1:=Zvb hi'.pk;have l2:=Zvb (hi'.qk q hp4);refine ifT rfl ⟨pa,pn,pc,x7.get 1 rfl,qa,qn,qc,x7.get 272 (by rw [show (272:Nat)=270+2 from rfl,Ziv x7.seen.1];rfl),?_⟩
        refine (Zcbw (p:=s'.a.path) (q:=q) (x7.at_.zlive hzb) (hy.keep x7.at_.keep) x7.at_.path p42 (by omega) (by omega)).mono fun v H8 hv=>?_
        obtain ⟨k8,Z1,hf,hmg⟩:=hv;have x8:=x7.more hzb k8 hf;obtain ⟨ma,mn,mc,rfl⟩: ∃qa qn qc,v= .slice qa qn qc:=by have:=hmg;simp only [Za] at this;obtain ⟨pa,pn,pc,e,_⟩:=this;exact ⟨pa,pn,pc,e⟩
        refine ⟨ma,mn,mc,rfl,?_⟩;have hmg':Za (Or2 Z (Or2 Zn Z1)) H8 Zbf (Zbv s'.a.path q) (.slice ma mn mc):=Za.ext (fun x hx=>⟨by
          rcases hx with (hx | hx) | hx;exact .inl hx;exact .inr (.inl hx)
          . exact .inr (.inr hx),rfl⟩) _ _ _ hmg
        have hml:(Zbv s'.a.path q).length <= 9223372036854775807:=by have:=Za.wf _ _ _ hmg';simp only [WfE] at this;exact this.1
        have hmc:=Zbiu s'.a.path q;refine (Zcch (p:=Zbv s'.a.path q) (x8.at_.zlive hzb) (hy.keep x8.at_.keep) hmg' hml (by omega)).mono fun v H9 hv=>?_
        obtain ⟨k9,rfl⟩:=hv;have x9:=x8.kept hzb k9;have hmg9:Za (Or2 Z (Or2 Zn Z1)) H9 Zbf (Zbv s'.a.path q) (.slice ma mn mc):=Za.ext (fun x hx=>⟨hx,k9.same x (fun h=>h.elim) (x8.at_.zlive hzb x hx)⟩) _ _ _ hmg';refine ⟨_,rfl,?_⟩;by_cases hok:Zbs (Zbv s'.a.path q)=true
        . rw [if_pos hok] at mspec;rw [hok];refine ifT rfl (x9.st 1 (by decide) rfl fun H10 hb10 ho10=>?_)
          exact j7 _ H10 mspec.symm og ⟨_,_,_,_,_,_,_,_,_,_,x9.turn hzb ho10 (s':=s'.put (s'.a.origin,Zbv s'.a.path q,s'.a.next,s'.a.hasMed,s'.a.med,s'.a.hasLocal,s'.a.loc,s'.a.atomic,s'.a.hasMaker,mm.1,mm.2,s'.a.comms,s'.a.others)) hb10 rfl rfl hmg9 x9.seen x9.p4 x9.m4⟩
        . rw [if_neg hok] at mspec;have hok':Zbs (Zbv s'.a.path q)=false:=by simpa using hok
          rw [hok'];exact ifF rfl (j7 _ H9 mspec.symm og ⟨_,_,_,_,_,_,_,_,_,_,x9⟩)
    have same:s'.put (s'.a.origin,s'.a.path,s'.a.next,s'.a.hasMed,s'.a.med,s'.a.hasLocal,s'.a.loc,s'.a.atomic,s'.a.hasMaker,s'.a.makerAS,s'.a.maker,s'.a.comms,s'.a.others)=s':=rfl;have m4:=x.m4;have g273:=x.get 273 (v:= .bool vm.1) (by rw [show (273:Nat)=270+3 from rfl,Ziv x.seen.1];rfl)
    have j4: ∀t:Bool,t=decide (¬(s'.a.hasMaker=true∧s'.a.makerAS≠23456))->Zzt m1 m2 b next t H2 R:=by
      rintro t rfl;unfold Zzt;refine IfB.intro (fun ht=>?_) fun ht=>?_
      . have hn:=of_decide_eq_true ht;refine ⟨_,x.get 8 rfl,?_⟩;show IfB s'.a.hasMaker _ _;cases hmk:s'.a.hasMaker with
        | false=>
          refine ifF rfl ?_;unfold Zyn;exact ifF rfl (j6 (s'.a.makerAS,s'.a.maker) H2 hn (by rw [hmk]) hr2)
        | true=>
          refine ifT rfl ⟨_,g273,?_⟩;unfold Zyn;cases hm4:s'.m4 with
          | none=>
            rw [hm4] at m4;have m4:vm.1=false:=m4;rw [m4];exact ifF rfl (j6 (s'.a.makerAS,s'.a.maker) H2 hn (by rw [hm4,hmk]) hr2)
          | some m=>
            rw [hm4] at m4;have m4:vm=(true,m.1,m.2):=m4;subst m4;refine ifT rfl ⟨_,x.get 274 (by rw [show (274:Nat)=270+4 from rfl,Ziv x.seen.1];rfl),_,x.get 275 (by rw [show (275:Nat)=270+5 from rfl,Ziv x.seen.1];rfl),?_⟩
            refine stB x.blk 9 (by rw [Zfk x.seen.1];decide) rfl fun H6 b6 o6=>stB b6 10 (by rw [List.length_set,Zfk x.seen.1];decide) rfl fun H7 b7 o7=>?_
            have o': ∀y,y≠b->H7 y=H2 y:=fun y hy=>(o7 y hy).trans (o6 y hy);exact j6 m H7 hn (by rw [hm4,hmk]) ⟨_,_,_,_,_,_,_,_,_,_,x.turn hzb o' (s':=s'.put (s'.a.origin,s'.a.path,s'.a.next,s'.a.hasMed,s'.a.med,s'.a.hasLocal,s'.a.loc,s'.a.atomic,s'.a.hasMaker,m.1,m.2,s'.a.comms,s'.a.others)) b7 rfl rfl x.at_.path x.seen x.p4 x.m4⟩
      have hn:=of_decide_eq_false ht;have hn:s'.a.hasMaker=true∧s'.a.makerAS≠23456:=Decidable.not_not.1 hn;rw [if_pos hn] at mspec;exact j7 s'.a H2 mspec.symm og hr2
    refine ⟨_,x.get 8 rfl,?_⟩;show IfB (!s'.a.hasMaker) _ _;cases hmk:s'.a.hasMaker with
    | false=>exact ifT rfl (j4 true (by simp [hmk]))
    | true=>
      refine ifF rfl ⟨_,x.get 9 rfl,j4 _ ?_⟩;show ((s'.a.makerAS.toNat:Int)==23456)=_;have e:((s'.a.makerAS.toNat:Int)==23456)=decide (s'.a.makerAS.toNat=23456):=Zvo;rw [e,hmk];have e2:(s'.a.makerAS.toNat=23456)↔s'.a.makerAS=23456:=by constructor;intro h;apply UInt32.toNat_inj.1;exact h;intro h;rw [h];rfl
      by_cases hq:s'.a.makerAS=23456;rw [decide_eq_true (e2.2 hq)];simp [hq];rw [decide_eq_false fun h=>hq (e2.1 h)];simp [hq]
  have hr0:=hr;obtain ⟨Zn,vp,ca,cc,oa,oc,seen,v4,vm,h4,x⟩:=hr0;have sn: ∀k,k<256->Hx.cell ⟨b,14+k,none⟩=some (.bool (decide (k∈s.seen))):=fun k hk=>by rw [← x.seen.2 k hk];exact x.get (14+k) (Zbss x.seen.1 hk)
  have j1: ∀x64:Bool,x64=decide (told=true∧¬(1∈s.seen∧2∈s.seen∧3∈s.seen))->Zlk m1 m2 b next x64 Hx R:=by
    rintro x64 rfl;unfold Zlk;refine IfB.intro (fun hh=>?_) fun hh=>?_;have hh:=of_decide_eq_true hh;refine (Zkz hzb hr 2).mono fun v H14 hm=>?_;obtain ⟨rfl,r14,_⟩:=hm;exact ⟨rfl,j2 (s.found 2) H14 (by rw [if_pos hh]) (hi.found 2 (by decide)) r14⟩
    have hh:=of_decide_eq_false hh;exact j2 s Hx (by rw [if_neg hh]) hi hr
  unfold Zkf;refine IfB.intro (fun ht=>?_) fun ht=>?_
  . subst ht;refine InB.intro 1 rfl (by decide) ⟨_,sn 1 (by decide),IfB.intro (fun h1=>?_) fun h1=>InB.intro 2 rfl (by decide) ⟨_,sn 2 (by decide),IfB.intro (fun h2=>?_) fun h2=>InB.intro 3 rfl (by decide) ⟨_,sn 3 (by decide),j1 _ ?_⟩⟩⟩
    . have h1: ¬1∈s.seen:=by simpa using h1
      exact j1 _ (by simp [h1])
    . have h2: ¬2∈s.seen:=by simpa using h2
      exact j1 _ (by simp [h2])
    . have h1:1∈s.seen:=by simpa using h1
      have h2:2∈s.seen:=by simpa using h2
      simp [h1,h2]
  subst ht;exact j1 _ (by simp)
end
end Go.Proofs.YthdffaojeghaeaaGreatDoor
end
section
set_option maxRecDepth 100000
namespace Go.Proofs.YthdffaojeghaeaaGreatDoor
open Go.Sh
theorem Zcsn {H0 H:Heap} {b:Nat} {four:Bool} {Z:Nat->Prop} (k:Keep Nil H0 H) (hb:H0 b=none) (h:Blk H b Zei ⟨setL Zbec 270 [.bool four]⟩):Ry Z H0 H b four rd0:=by
  rw [Zcrv] at h;refine ⟨fun _=>False,.slice none 0 0,none,0,none,0,List.replicate 256 false,.slice none 0 0,(false,0,0),false,⟨⟨k,Zbi.none,hb,fun h=>h,Zky,Sh.Own.nil,fun _ h=>by (cases h),by decide,⟨[],Sh.Own.nil,fun i r hr=>by have hr':([]:List Raw)[i]? =some r:=hr;simp at hr'⟩,fun _ h=>by (cases h),by decide⟩,h,⟨by simp,fun k hk=>?_⟩,⟨rfl,none,0,0,rfl⟩,rfl⟩⟩
  rw [List.getD_eq_getElem?_getD,List.getElem?_replicate,if_pos hk];show false=decide (k∈([]:List Nat));simp
theorem Zbog {Z:Nat->Prop} {H:Heap} {d d':List UInt8} {v:Value} (e:d=d') (h:Za Z H Zp d v):Za Z H Zp d' v:=by subst e;exact h
theorem Znt {Z:Nat->Prop} {H:Heap} {d:List UInt8} {a:Option Addr} {n c:Nat} (h:Za Z H Zp d (.slice a n c)) {i:Nat} {y:UInt8} (hy:d[i]? =some y) {K:Value->Prop} {X:Addr->Prop} (hx: ∀p:Addr,H.cell p=some (.int .u8 (y.toNat:Int))->X p) {j:Int} (hj:j=(i:Int)):
    NilP a fun q=>InB j n fun i=>elemAt q i 1 X:=by
  obtain ⟨hn,_,_⟩:=Zfy h;have hi:i<d.length:=by rcases Nat.lt_or_ge i d.length with h | h;exact h;rw [List.getElem?_eq_none h] at hy;cases hy
  obtain ⟨m,o,rfl,_,hc⟩:=Zpf h hi;rw [List.getElem?_eq_getElem hi] at hy;cases hy;refine NilP.intro _ rfl (InB.intro i hj (by omega) ?_)
  rw [Zez];refine hx _ ?_;rw [Nat.mul_one];exact hc
section
variable {Z:Nat->Prop} {H Hb Hx:Heap} {b m1 m2:Nat} {four told:Bool} {s:RdS} {d:List UInt8} {a:Option Addr} {n c:Nat}
theorem wr8 {x:Nat} (h:x<256):IntKind.wrap .u8 (x:Int)=(x:Int):=by rw [Zte];omega
theorem yj8 (hz: ∀x,Z x->H x≠none) (kb:Keep Nil H Hb) (hy:Lyd Hb) (hd:Za Z Hb Zp d (.slice a n c)) (hdl:d.length <= 100000) (hr:Ry Z Hb Hx b four s) (hi:InvS s) (hb1:Blk Hb m1 Zcu ⟨zrA⟩) (hb2:Blk Hb m2 Zdq ⟨zrF⟩) (f1:H m1=none) (f2:H m2=none)
    {i:Nat} (hloop:Zce four (d.drop i).length (d.drop i) s=Zce four d.length d rd0) {R:Value->Heap->Prop} (done: ∀v H1,Zeq Z H (Zbp four told d) v H1->R v H1) {next:(Int×Unit)->Heap->Prop}
    (more: ∀(m:Nat) (s':RdS) (H':Heap),i<m->m <= d.length->Ry Z Hb H' b four s'->InvS s'->Zce four (d.drop m).length (d.drop m) s'=Zce four d.length d rd0->next ((m:Int),()) H')
    {head N:Nat} (hh:head=3∨head=4) (hN:N <= 70000) (hih:i+head <= d.length) {f k:UInt8} (hf:d[i]? =some f) (hk:d[i+1]? =some k) (hnx:Zdy (d.drop i)=if N <= d.length - i - head then some (f.toNat/64*64,k.toNat,((d.drop i).drop head).take N,head+N) else none):
    Zvq a n c told m1 m2 b (i:Int) next (head:Int) (N:Int) Hx R:=by
  have hzb: ∀x,Z x->Hb x≠none:=fun x hx=>kb.live x (hz x hx);obtain ⟨hn,hnc,hcm⟩:=Zfy hd;unfold Zj at hcm;have hil:i<d.length:=by omega
  have hne: ∃x0 r0,d.drop i=x0::r0:=⟨_,_,List.drop_eq_getElem_cons hil⟩;have hdrl:(d.drop i).length=d.length - i:=List.length_drop;unfold Zvq;have w1:IntKind.wrap .i64 ((IntKind.wrap .i64 ((n:Int) - (i:Int))) - (head:Int))=((d.length - i - head:Nat):Int):=by
    rw [Ze (n:=(n:Int) - (i:Int)) (by omega) (by omega),Ze (by omega) (by omega)];omega
  rw [w1];refine IfB.intro (fun hbig=>?_) fun hbig=>?_
  . have hbig:=of_decide_eq_true hbig;rw [if_neg (by omega)] at hnx
    refine (Zkz hzb hr 2).mono fun v H11 hm=>?_;obtain ⟨rfl,r11,_⟩:=hm;refine ⟨rfl,Zbeb hz kb hy r11 (hi.found 2 (by decide)) hb1 hb2 f1 f2 ?_ done⟩
    rw [← hloop];obtain ⟨x0,r0,e⟩:=hne;rw [e] at hnx ⊢;simp only [List.length_cons,Zce,hnx]
  have hfit:N <= d.length - i - head:=by have:=of_decide_eq_false hbig;omega
  rw [if_pos hfit] at hnx;have keep:=hr.keep;have hdx:Za Z Hx Zp d (.slice a n c):=Zfh hzb hd keep;have fl8:=UInt8.toNat_lt f;have kd8:=UInt8.toNat_lt k;refine Znt (K:=fun _=>True) hdx hf (fun pf gf=>?_) rfl;refine ⟨_,gf,by decide,Znt (K:=fun _=>True) hdx hk (fun pk gk=>?_) (by rw [Ze (by omega) (by omega)];omega)⟩
  refine ⟨_,gk,?_⟩;have eF:IntKind.wrap .u8 ((IntKind.wrap .u8 (Int.tdiv (f.toNat:Int) 64))*64)=((f.toNat/64*64:Nat):Int):=by
    rw [Int.tdiv_eq_ediv_of_nonneg (by omega)]
    have e1:(f.toNat:Int)/64=((f.toNat/64:Nat):Int):=by omega
    rw [e1,wr8 (by omega)]
    have e2:((f.toNat/64:Nat):Int)*64=((f.toNat/64*64:Nat):Int):=by omega
    rw [e2,wr8 (by omega)]
  have eK:IntKind.wrap .i64 (k.toNat:Int)=(k.toNat:Int):=Ze (by omega) (by omega)
  have eH:IntKind.wrap .i64 ((IntKind.wrap .i64 ((i:Int)+(head:Int)))+(N:Int))=((i+head+N:Nat):Int):=by
    rw [Ze (n:=(i:Int)+(head:Int)) (by omega) (by omega),Ze (by omega) (by omega)];omega
  have eM:IntKind.wrap .i64 ((i:Int)+(IntKind.wrap .i64 ((head:Int)+(N:Int))))=((i+(head+N):Nat):Int):=by
    rw [Ze (n:=(head:Int)+(N:Int)) (by omega) (by omega),Ze (by omega) (by omega)];omega
  simp only [eF,eK,eH,eM];generalize hfl:f.toNat/64*64=fl at*;generalize hkd:k.toNat=kd at*;refine InC.intro (i+head+N) rfl (by omega) (InC.intro i rfl (by omega) (InC.intro head rfl (by omega) ?_))
  have dW:Za Z Hb Zp ((d.take (i+head+N)).drop i) (.slice (if c=i then a else Option.map (fun a=>Addr.add a (i*1)) a) (i+head+N - i) (c - i)):=Zkn (d:=d.take (i+head+N)) (Zbej hd (by omega)) (by rw [List.length_take];omega)
  have lW:((d.take (i+head+N)).drop i).length=head+N:=by rw [List.length_drop,List.length_take];omega
  have eW:(d.take (i+head+N)).drop i=(d.drop i).take (head+N):=by rw [List.drop_take];congr 1;omega
  have dD:Za Z Hb Zp (((d.take (i+head+N)).drop i).drop head) (.slice (if c - i=head then (if c=i then a else Option.map (fun a=>Addr.add a (i*1)) a) else Option.map (fun a=>Addr.add a (head*1)) (if c=i then a else Option.map (fun a=>Addr.add a (i*1)) a)) (i+head+N - i - head) (c - i - head)):=Zkn (d:=(d.take (i+head+N)).drop i) dW (by omega)
  have eD:((d.take (i+head+N)).drop i).drop head=((d.drop i).drop head).take N:=by rw [eW,List.drop_take];congr 1;omega
  replace dD:=Zbog eD dD;replace dW:=Zbog eW dW;generalize hdd:((d.drop i).drop head).take N=dd at*;have ldd:dd.length <= 100000:=by rw [← hdd,List.length_take,List.length_drop,List.length_drop];omega
  have hflr:=Zbbv hnx;have hstep:Zce four (d.drop i).length (d.drop i) s=match Zci four fl kd dd s with
      | none=>(s,some ((d.drop i).take (head+N)))
      | some s'=>Zce four ((d.drop i).length - 1) ((d.drop i).drop (head+N)) s':=by
    obtain ⟨x0,r0,e⟩:=hne;rw [e] at hnx ⊢;simp only [List.length_cons,Zce,hnx,Nat.add_sub_cancel];all_goals (cases Zci four fl kd dd s<;>rfl)
  have go: ∀(s':RdS) (H':Heap),Zci four fl kd dd s=some s'->Ry Z Hb H' b four s'->next (((i+(head+N):Nat):Int),()) H':=fun s' H' ht hr'=>
    more (i+(head+N)) s' H' (by omega) (by omega) hr' (Zbnh hi ht) (by
      rw [← hloop,hstep,ht];simp only;rw [List.drop_drop];exact Zbfs four _ _ _ _ (Nat.le_refl _) (by rw [List.length_drop,List.length_drop];omega))
  have hr0:=hr;obtain ⟨Zn,vp,ca,cc,oa,oc,seen,v4,vm,h4,q⟩:=hr;have sn:Hx.cell ⟨b,14+kd*1,none⟩=some (.bool (decide (kd∈s.seen))):=by rw [← q.seen.2 kd kd8,Nat.mul_one];exact q.get (14+kd) (Zbss q.seen.1 kd8)
  refine InB.intro kd rfl kd8 ⟨_,sn,IfB.intro (fun hs=>?_) fun hs=>InB.intro kd rfl kd8 ?_⟩;have hs:=of_decide_eq_true hs;refine (Zkz hzb hr0 1).mono fun v H2 hm=>?_;obtain ⟨rfl,r2,c2⟩:=hm;exact ⟨rfl,go _ _ (by unfold Zci;rw [if_pos hs]) r2⟩
  have hs:=of_decide_eq_false hs;rw [Nat.mul_one];refine q.st (14+kd) (by omega) rfl fun H3 hb3 ho3=>?_
  rw [Zcdt q.seen.1 kd8] at hb3;have q3:RyX Z Hb H3 b four Zn vp ca cc oa oc (seen.set kd true) v4 vm h4 (s.see kd):=q.turn hzb ho3 hb3 rfl rfl q.at_.path (Zbme q.seen kd8) q.p4 q.m4;have hkr:InR .i64 (kd:Int):=⟨by simp only [loI];omega,by simp only [hiI];omega⟩
  refine (Zcfx kd hkr (hy.keep q3.at_.keep)).mono fun v H4 hm=>?_;obtain ⟨k4,rfl⟩:=hm;have q4:=q3.kept hzb k4;have r4:Ry Z Hb H4 b four (s.see kd):=⟨_,_,_,_,_,_,_,_,_,_,q4⟩;have spec:Zci four fl kd dd s=if Zda kd=true then (if (fl:Int)=Zdc kd then some (oneF four kd dd (s.see kd)) else some ((s.see kd).found 2)) else if fl<128 then none else if fl=192 then some (Zex kd dd (s.see kd)) else some (s.see kd):=by unfold Zci;rw [if_neg hs]
  refine ⟨_,rfl,?_⟩;cases hkn:Zda kd with
  | false=>
    rw [hkn,if_neg (by simp)] at spec
    refine ifT rfl (IfB.intro (fun hlt=>?_) fun hge=>?_)
    . have hlt:fl<128:=by have:=of_decide_eq_true hlt;omega
      rw [if_pos hlt] at spec;rw [spec] at hstep;refine Zbmk (Z:=Z) (Zeo hzb q4.at_.keep) (Zfh hzb dW q4.at_.keep) (by rw [List.length_take];omega) fun va vc H51 Z2 k51 hf51 hv=>?_
      refine ⟨va,_,vc,rfl,?_⟩;have kk:=q4.at_.keep.trans k51;refine Zbya (Zn:=Z2) (dd:=(d.drop i).take (head+N)) (w:=3) hz kb hb1 hb2 f1 f2 kk (fun y hy=>?_) (fun y hy=>q4.at_.keep.free (hf51 y hy).1) (Zfz (by decide) (by decide)) (Zfz (by decide) (by decide)) (Zfz (by decide) (by decide)) hv fun H6 g1 g2 hres=>?_
      obtain ⟨q1,q2,q3⟩:=hf51 y hy;exact ⟨(kb.trans q4.at_.keep).free q1,q2,q3⟩;have y: ∀j:Nat,H6.cell ⟨m1,j,none⟩=zrA[j]? :=fun j=>by rw [g1.cell];simp
      have z: ∀j:Nat,H6.cell ⟨m2,j,none⟩= [Value.int .i64 3,.int .i64 2,.slice va ((d.drop i).take (head+N)).length vc][j]? :=fun j=>by rw [g2.cell];simp
      refine ⟨0,y 0,none,0,0,y 1,0,y 2,false,y 3,0,y 4,false,y 5,0,y 6,false,y 7,false,y 8,0,y 9,0,y 10,none,0,0,y 11,none,0,0,y 12,3,z 0,2,z 1,va,_,vc,z 2,done _ _ ?_⟩;have er:Zbp four told d=(Zfs,3,some ((d.drop i).take (head+N))):=by unfold Zbp;rw [← hloop,hstep]
      rw [er];exact hres
    . have hge: ¬fl<128:=by have:=of_decide_eq_false hge;omega
      rw [if_neg hge] at spec;have e192:((fl:Int)==192)=decide (fl=192):=Zvo;rw [e192];refine IfB.intro (fun h192=>?_) fun h192=>?_;rw [if_pos (of_decide_eq_true h192)] at spec;refine (Zcnj hzb hy dD ldd r4 kd8).mono fun v H5 hm=>?_;obtain ⟨rfl,r5,c5⟩:=hm;exact ⟨rfl,go _ _ spec r5⟩
      . rw [if_neg (of_decide_eq_false h192)] at spec;exact go _ _ spec r4
  | true=>
    rw [hkn,if_pos rfl] at spec;refine ifF rfl ((Zcrg kd hkr hkn (hy.keep q4.at_.keep)).mono fun v H5 hm=>?_);obtain ⟨k5,rfl⟩:=hm;have r5:Ry Z Hb H5 b four (s.see kd):=r4.kept hzb k5;refine ⟨_,rfl,IfB.intro (fun hne=>?_) fun he=>?_⟩
    . have hne: ¬(fl:Int)=Zdc kd:=fun e=>by rw [e] at hne;simp at hne
      rw [if_neg hne] at spec;refine (Zkz hzb r5 2).mono fun v H6 hm=>?_;obtain ⟨rfl,r6,c6⟩:=hm;exact ⟨rfl,go _ _ spec r6⟩
    . have he:(fl:Int)=Zdc kd:=by simpa using he
      rw [if_pos he] at spec;refine (Zcow hzb hy dD ldd r5 kd8 (fun e=>?_)).mono fun v H6 hm=>?_;have:s.a.comms= []:=hi.c (e▸hs);show s.a.comms.length <= 1000;rw [this];simp;obtain ⟨rfl,r6,c6⟩:=hm;exact ⟨rfl,go _ _ spec r6⟩
theorem Zcej (hz: ∀x,Z x->H x≠none) (hy:Lyd H) (hd:Za Z H Zp d (.slice a n c)) (hdl:d.length <= 100000):
    FnW Tryz.prog Zmv ⟨[.slice a n c,.bool four,.bool told]⟩ H (Zeq Z H (Zbp four told d)):=by
  refine Zcay a n c four told ?_;generalize hR:(fun v H1=>∀H2,Shut H H1 H2->Zeq Z H (Zbp four told d) v H2)=R;have done: ∀v H1,Zeq Z H (Zbp four told d) v H1->R v H1:=fun v H1 h=>by rw [← hR];exact fun H2 hs=>Zeq.shut hz h hs
  refine Zqi fun m1 H1 h1 k1 c1 b1=>Zqi fun m2 H2 h2 k2 c2 b2=>Zqi fun b H3 h3 k3 c3 b3=>?_;have hb1:Blk H2 m1 Zcu ⟨zrA⟩:=k2.blk b1 fun h=>h.elim;have hb2:Blk H2 m2 Zdq ⟨zrF⟩:=b2;have f2:H m2=none:=k1.free h2;have kb:Keep Nil H H2:=k1.trans k2;have hyb:=hy.keep kb;have hzb: ∀x,Z x->H2 x≠none:=fun x hx=>kb.live x (hz x hx);have hdb:Za Z H2 Zp d (.slice a n c):=Za.ext (fun x hx=>⟨hx,kb.same x (fun h=>h.elim) (hz x hx)⟩) _ _ _ hd;obtain ⟨hn,hnc,hcm⟩:=Zfy hd;unfold Zj at hcm;refine ⟨fun k x Hx=>∃(i:Nat) (s:RdS),x=((i:Int),())∧k=d.length - i∧i <= d.length∧Ry Z H2 Hx b four s∧InvS s∧Zce four (d.drop i).length (d.drop i) s=Zce four d.length d rd0,d.length,⟨0,rd0,rfl,rfl,Nat.zero_le _,Zcsn k3 h3 b3,inv0,rfl⟩,?_⟩;rintro k x Hx ⟨i,s,rfl,rfl,hil,hr,hi,hloop⟩ gE;dsimp only;unfold Zbpp;refine IfB.intro (fun hpos=>?_) fun hnp=>?_
  rotate_left
  . have hnp:=of_decide_eq_false hnp;rw [List.drop_eq_nil_of_le (by omega)] at hloop
    exact Zbeb hz kb hyb hr hi hb1 hb2 h1 f2 hloop.symm done
  have hpos:i<d.length:=by have:=of_decide_eq_true hpos;omega
  have e0:d.drop i=d[i]::d.drop (i+1):=List.drop_eq_getElem_cons hpos;have cut: ∀{x:Int->Prop},Zdy (d.drop i)=none->FnW Tryz.prog Zdg ⟨[.pointer (some ⟨b,0,none⟩),.int .i64 2]⟩ Hx fun v H'=>v= .tuple ⟨[]⟩∧Zkf told m1 m2 b (fun x' H'=>∃k',k'<d.length - i∧∃(i:Nat) (s:RdS),x'=((i:Int),())∧k'=d.length - i∧i <= d.length∧Ry Z H2 H' b four s∧InvS s∧Zce four (d.drop i).length (d.drop i) s=Zce four d.length d rd0) H' R:=fun hnx=>
    (Zkz hzb hr 2).mono fun v H11 hm=>by
      obtain ⟨rfl,r11,_⟩:=hm;refine ⟨rfl,Zbeb hz kb hyb r11 (hi.found 2 (by decide)) hb1 hb2 h1 f2 ?_ done⟩
      rw [← hloop];rw [e0] at hnx ⊢;simp only [List.length_cons,Zce,hnx]
  rw [Ze (n:=(i:Int)+2) (by omega) (by omega),Ze (n:=(i:Int)+3) (by omega) (by omega)]
  refine IfB.intro (fun h2'=>?_) fun h2'=>?_
  . have h2':d.length <= i+2:=by have:=of_decide_eq_true h2';omega
    refine cut (x:=fun _=>True) ?_;have hl:(d.drop i).length <= 2:=by rw [List.length_drop];omega
    match hq:d.drop i,hl with
    | [],_=>rfl
    | [_],_=>rfl
    | [_,_],_=>rfl
  have h2':i+2<d.length:=by have:=of_decide_eq_false h2';omega
  have e1:d.drop (i+1)=d[i+1]::d.drop (i+2):=List.drop_eq_getElem_cons (by omega)
  have e2:d.drop (i+2)=d[i+2]::d.drop (i+3):=List.drop_eq_getElem_cons (by omega)
  have hdx:Za Z Hx Zp d (.slice a n c):=Zfh hzb hdb hr.keep;have g0:d[i]? =some d[i]:=List.getElem?_eq_getElem (by omega)
  have g1:d[i+1]? =some d[i+1]:=List.getElem?_eq_getElem (by omega)
  have g2:d[i+2]? =some d[i+2]:=List.getElem?_eq_getElem (by omega)
  have b0:=UInt8.toNat_lt d[i];have b2':=UInt8.toNat_lt d[i+2];have more: ∀(m:Nat) (s':RdS) (H':Heap),i<m->m <= d.length->Ry Z H2 H' b four s'->InvS s'->Zce four (d.drop m).length (d.drop m) s'=Zce four d.length d rd0->(fun x' H'=>∃k',k'<d.length - i∧∃(i:Nat) (s:RdS),x'=((i:Int),())∧k'=d.length - i∧i <= d.length∧Ry Z H2 H' b four s∧InvS s∧Zce four (d.drop i).length (d.drop i) s=Zce four d.length d rd0:(Int×Unit)->Heap->Prop) ((m:Int),()) H':=
    fun m s' H' q1 q2 q3 q4 q5=>⟨d.length - m,by omega,m,s',rfl,rfl,q2,q3,q4,q5⟩
  refine Znt (K:=fun _=>True) hdx g2 (fun p2 c2'=>⟨_,c2',Znt (K:=fun _=>True) hdx g0 (fun p0 c0'=>⟨_,c0',by decide,by decide,?_⟩) rfl⟩) (by omega)
  have eB:Int.tmod (IntKind.wrap .u8 (Int.tdiv ((d[i]).toNat:Int) 16)) 2=(((d[i]).toNat/16%2:Nat):Int):=by
    rw [Int.tdiv_eq_ediv_of_nonneg (by omega)]
    have e1:((d[i]).toNat:Int)/16=(((d[i]).toNat/16:Nat):Int):=by omega
    rw [e1,wr8 (by omega),Int.tmod_eq_emod_of_nonneg (by omega)];omega
  rw [eB];have eB2:((((d[i]).toNat/16%2:Nat):Int)==1)=decide ((d[i]).toNat/16%2=1):=Zvo;rw [eB2];have nx:Zdy (d.drop i)=Zdy (d[i]::d[i+1]::d[i+2]::d.drop (i+3)):=by rw [e0,e1,e2]
  refine IfB.intro (fun hext=>?_) fun hext=>?_
  . have hext:=of_decide_eq_true hext;refine IfB.intro (fun h3'=>?_) fun h3'=>?_
    . have h3':d.length <= i+3:=by have:=of_decide_eq_true h3';omega
      refine cut (x:=fun _=>True) ?_;rw [nx,List.drop_eq_nil_of_le (by omega)]
      simp only [Zdy,if_pos hext]
    . have h3':i+3<d.length:=by have:=of_decide_eq_false h3';omega
      have e3:d.drop (i+3)=d[i+3]::d.drop (i+4):=List.drop_eq_getElem_cons (by omega)
      have g3:d[i+3]? =some d[i+3]:=List.getElem?_eq_getElem (by omega)
      have b3':=UInt8.toNat_lt d[i+3];refine Znt (K:=fun _=>True) hdx g2 (fun p2 c2'=>⟨_,c2',Znt (K:=fun _=>True) hdx g3 (fun p3 c3'=>⟨_,c3',?_⟩) (by omega)⟩) (by omega)
      have eN:IntKind.wrap .i64 ((IntKind.wrap .i64 (256*(IntKind.wrap .i64 ((d[i+2]).toNat:Int))))+(IntKind.wrap .i64 ((d[i+3]).toNat:Int)))=(((d[i+2]).toNat*256+(d[i+3]).toNat:Nat):Int):=by
        rw [Ze (n:=((d[i+2]).toNat:Int)) (by omega) (by omega),Ze (n:=((d[i+3]).toNat:Int)) (by omega) (by omega),Ze (n:=256*((d[i+2]).toNat:Int)) (by omega) (by omega),Ze (by omega) (by omega)];omega
      rw [eN];refine yj8 hz kb hyb hdb hdl hr hi hb1 hb2 h1 f2 hloop done more (head:=4) (.inr rfl) (by omega) (by omega) g0 g1 ?_
      rw [nx,e3];simp only [Zdy,if_pos hext];have hl:(d.drop (i+4)).length=d.length - i - 4:=by rw [List.length_drop];omega
      rw [hl,List.drop_drop]
  . have hext:=of_decide_eq_false hext;rw [Ze (n:=((d[i+2]).toNat:Int)) (by omega) (by omega)]
    refine yj8 hz kb hyb hdb hdl hr hi hb1 hb2 h1 f2 hloop done more (head:=3) (.inl rfl) (by omega) (by omega) g0 g1 ?_
    rw [nx];simp only [Zdy,if_neg hext];have hl:(d.drop (i+3)).length=d.length - i - 3:=by rw [List.length_drop];omega
    rw [hl,List.drop_drop]
end
def Zbib (b:List UInt8) (four told:Bool) (K:Zo->Int->Int×Int×List UInt8->Prop):Prop:=b.length <= 100000∧K (Zbp four told b).1 ((Zbp four told b).2.1:Int) (Zkj (Zbp four told b).2.2)
abbrev Zbbi:List Pk:=[Pk.lst [Kd.int .u8],Pk.bool,Pk.bool]
abbrev Zbfn:List Pk:=[Pk.agg ksAt,Pk.int .i64,Pk.agg ksFt]
theorem Zcmq:FnQ Tryz.prog Zmv Zbbi Zbfn (fun x K=>Zbib x.1 x.2.1 x.2.2.1 (fun r0 r1 r2=>K (r0,r1,r2,()))):=by
  refine Zyq rfl (fun _=>rfl) fun x K hx H Z vs hsl hz hlay hlo=>?_;obtain ⟨b,four,told,u⟩:=x;obtain ⟨hb,hk⟩:=hx;have hsl':SimL (gZ Z) H 0 [.lst [.int .u8] b,.bool four,.bool told] vs:=hsl
  match vs,hsl' with
  | [v0,v1,v2],hsl'=>
  simp only [SimL,SimV,and_true] at hsl';obtain ⟨h0,rfl,rfl⟩:=hsl';obtain ⟨a,n,c,rfl⟩:=Zbbp h0;refine (Zcej hz ⟨hlay,hlo⟩ h0 hb).mono fun v H' hv=>?_;obtain ⟨k,Zn,hf,hs⟩:=hv;exact ⟨k,((Zbp four told b).1,((Zbp four told b).2.1:Int),Zkj (Zbp four told b).2.2,()),Zn,hk,hf,hs⟩
noncomputable def Zbvi:Ct:=Zcy Zbbi Zbfn (fun x K=>Zbib x.1 x.2.1 x.2.2.1 (fun r0 r1 r2=>K (r0,r1,r2,())))
theorem Zckh:Zw Tryz.prog Zmv Zbvi:=Zdj Zcmq
end Go.Proofs.YthdffaojeghaeaaGreatDoor
end
section
namespace Go.Proofs.YthdffaojeghaeaaGreatDoor
open Go.Sh
abbrev Zbfp:List Pk:=[Pk.agg ksAt,Pk.bool]
abbrev Zbbg:List Pk:=[Pk.lst [Kd.int .u8],Pk.int .i64]
def Zbbs (a:Zo) (four:Bool) (K:List UInt8->Int->Prop):Prop:=False
theorem Zbyo:FnQ Tryz.prog Zbho Zbfp Zbbg (fun x K=>Zbbs x.1 x.2.1 (fun r0 r1=>K (r0,r1,()))):=
  Zyq rfl (fun _=>rfl) fun x K hx=>False.elim hx
noncomputable def Zbjr:Ct:=Zcy Zbfp Zbbg (fun x K=>Zbbs x.1 x.2.1 (fun r0 r1=>K (r0,r1,())))
theorem Zcjg:Zw Tryz.prog Zbho Zbjr:=Zdj Zbyo
end Go.Proofs.YthdffaojeghaeaaGreatDoor
end
