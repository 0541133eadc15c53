/-
  SOME FUNCTIONS OVER PLAIN DATA:printed by a program of ours over this translation.
-/
import Derived.Test.YthdffaojeghaeaaGreatDoorBA
import Derived.Test.YthdffaojeghaeaaGreatDoorYA
import Derived.Test.YthdffaojeghaeaaGreatDoorED
set_option linter.all false
section
set_option maxRecDepth 100000
set_option maxHeartbeats 4000000
namespace Go.Proofs.YthdffaojeghaeaaGreatDoor
open Go.Sh
abbrev TyL1:=Int×List (Bool×List UInt32)×UInt32×Bool×UInt32×Bool×UInt32×Bool×Bool×UInt32×UInt32×List UInt32×List (Int×List UInt8)×Int
abbrev TyL2:=Int×List (Bool×List UInt32)×UInt32×Bool×UInt32×Bool×UInt32×Bool×Bool×UInt32×UInt32×List UInt32×List (Int×List UInt8)
abbrev Zes:PPlan:=⟨[],[],[],[],[],[]⟩
abbrev Zrr:List Kd:=[Kd.int .u32,Kd.int .i64]
abbrev Zxe:List Kd:=[Kd.int .i64,Kd.lst [Kd.int .u8]]
abbrev Zbld:List Kd:=[Kd.lst [Kd.int .u8]]
theorem Zcnm:Known Tryz.prog Zsw Tryz.f22 Zes.plan (Zg Tryz.f22):=by refine ⟨Tryz.func22,?_,?_,?_,?_,?_⟩<;>kernel_rfl
abbrev Zod:List Pk:=[Pk.lst [Kd.int .u8]]
abbrev Zqc:List Pk:=[Pk.int .i64]
def Zsp (b0:List UInt8) (K:Int->Prop):Prop:=
 (0:Int) <= 0∧AtN b0 0 fun x4=>
 WfT Zbz x4->
 (0:Int) <= 8∧
 (0:Int) <= 1∧AtN b0 1 fun x9=>
 WfT Zbz x9->
 K (Zga .i64 (IntKind.wrap .i64 ((IntKind.wrap .i64 (x4.toNat:Int))*256)) (IntKind.wrap .i64 (x9.toNat:Int)))
noncomputable def Zclo:Tab:=⟨[],[]⟩
abbrev Zbws (x:PkTs Zod) (K:PkTs Zqc->Prop):Prop:=Zsp x.1 (fun r0=>K (r0,()))
theorem Zcfs:FnQ Tryz.prog Zsw Zod Zqc Zbws:=(Zt Zcnm (tab:=Zclo) ⟨trivial,trivial⟩ rfl).of_eq (by kernel_rfl)
noncomputable def Zbse:Ct:=ctRd Zod Zqc Zbws
theorem Zcat:Zw Tryz.prog Zsw Zbse:=Zde Zcfs
theorem Zclx:Known Tryz.prog Zzb Tryz.f10 Zes.plan (Zg Tryz.f10):=by refine ⟨Tryz.func10,?_,?_,?_,?_,?_⟩<;>kernel_rfl
abbrev Zok:List Pk:=[Pk.lst [Kd.int .u8]]
abbrev Zrs:List Pk:=[Pk.lst [Kd.int .u8],Pk.lst [Kd.int .u8],Pk.bool]
def Zrj (b0:List UInt8) (j1:Bool) (K:List UInt8->List UInt8->Bool->Prop):Prop:=
 IfB j1
 (K ([]:List UInt8) ([]:List UInt8) false)
 ((WfPs Zod (b0,())->
 Zsp b0 (fun x18=>
 WfPs Zqc (x18,())->
 (0:Int) <= (IntKind.wrap .i64 (2+x18))∧(IntKind.wrap .i64 (2+x18)) <= (b0.length:Int)∧
 (0:Int) <= 2∧2 <= ((IntKind.wrap .i64 (2+x18)).toNat:Int)∧
 (0:Int) <= (IntKind.wrap .i64 (2+x18))∧(IntKind.wrap .i64 (2+x18)) <= (b0.length:Int)∧
 K ((b0.take ((IntKind.wrap .i64 (2+x18)).toNat)).drop 2) (b0.drop ((IntKind.wrap .i64 (2+x18)).toNat)) true)))
def Zjt (b0:List UInt8) (K:List UInt8->List UInt8->Bool->Prop):Prop:=
 IfB (decide (((b0.length:Int):Int)<2))
 (Zrj b0 true K)
 ((WfPs Zod (b0,())->
 Zsp b0 (fun x11=>
 WfPs Zqc (x11,())->
 Zrj b0 (decide ((x11:Int)>(IntKind.wrap .i64 ((b0.length:Int) - 2)))) K)))
noncomputable def Zcud:Tab:=⟨[(Zsw,Zbse)],[]⟩
abbrev Zbni (x:PkTs Zok) (K:PkTs Zrs->Prop):Prop:=Zjt x.1 (fun r0 r1 r2=>K (r0,r1,r2,()))
theorem Zcus:FnQ Tryz.prog Zzb Zok Zrs Zbni:=(Zt Zclx (tab:=Zcud) ⟨⟨Zcat,trivial⟩,trivial⟩ rfl).of_eq (by kernel_rfl)
noncomputable def Zbrs:Ct:=Zcy Zok Zrs Zbni
theorem Zcqm:Zw Tryz.prog Zzb Zbrs:=Zdj Zcus
theorem Zchx:Known Tryz.prog Ztq Tryz.f11 Zes.plan (Zg Tryz.f11):=by refine ⟨Tryz.func11,?_,?_,?_,?_,?_⟩<;>kernel_rfl
abbrev Zmn:List Pk:=[Pk.int .i64]
abbrev Zml:List Pk:=[Pk.agg [Kd.lst [Kd.int .u32,Kd.int .i64],Kd.lst [Kd.int .u32,Kd.int .i64],Kd.int .i64,Kd.lst [Kd.bool,Kd.lst [Kd.int .u32]],Kd.int .u32,Kd.bool,Kd.int .u32,Kd.bool,Kd.int .u32,Kd.bool,Kd.bool,Kd.int .u32,Kd.int .u32,Kd.lst [Kd.int .u32],Kd.lst [Kd.int .i64,Kd.lst [Kd.int .u8]],Kd.int .i64],Pk.agg [Kd.int .i64,Kd.int .i64,Kd.lst [Kd.int .u8]],Pk.bool]
def Zlo (sub0:Int) (K:List (UInt32×Int)×List (UInt32×Int)×TyL1->(Int×Int×List UInt8)->Bool->Prop):Prop:=
 K (([]:List (UInt32×Int)),([]:List (UInt32×Int)),0,([]:List (Bool×List UInt32)),(ofI .u32 0),false,(ofI .u32 0),false,(ofI .u32 0),false,false,(ofI .u32 0),(ofI .u32 0),([]:List UInt32),([]:List (Int×List UInt8)),0) (3,sub0,([]:List UInt8)) false
noncomputable def Zcqt:Tab:=⟨[],[]⟩
abbrev Zbvm (x:PkTs Zmn) (K:PkTs Zml->Prop):Prop:=Zlo x.1 (fun r0 r1 r2=>K (r0,r1,r2,()))
theorem Zcrs:FnQ Tryz.prog Ztq Zmn Zml Zbvm:=(Zt Zchx (tab:=Zcqt) ⟨trivial,trivial⟩ rfl).of_eq (by kernel_rfl)
noncomputable def Zbom:Ct:=Zcy Zmn Zml Zbvm
theorem Zcgs:Zw Tryz.prog Ztq Zbom:=Zdj Zcrs
theorem Zcjd:Known Tryz.prog Zjo Tryz.f53 Zes.plan (Zg Tryz.f53):=by refine ⟨Tryz.func53,?_,?_,?_,?_,?_⟩<;>kernel_rfl
abbrev Zbad:List Pk:=[Pk.int .i64]
abbrev Zbae:List Pk:=[Pk.int .i64]
def Zzr (n0:Int) (K:Int->Prop):Prop:=
 (8:Int)≠0∧
 K (IntKind.wrap .i64 (Int.tdiv (IntKind.wrap .i64 ((IntKind.wrap .i64 (n0+8)) - 1)) 8))
noncomputable def Zcrh:Tab:=⟨[],[]⟩
abbrev Zbmm (x:PkTs Zbad) (K:PkTs Zbae->Prop):Prop:=Zzr x.1 (fun r0=>K (r0,()))
theorem Zcks:FnQ Tryz.prog Zjo Zbad Zbae Zbmm:=(Zt Zcjd (tab:=Zcrh) ⟨trivial,trivial⟩ rfl).of_eq (by kernel_rfl)
noncomputable def Zbnp:Ct:=ctRd Zbad Zbae Zbmm
theorem Zcgf:Zw Tryz.prog Zjo Zbnp:=Zde Zcks
theorem Zcgc:Known Tryz.prog Zjf Tryz.f54 Zes.plan (Zg Tryz.f54):=by refine ⟨Tryz.func54,?_,?_,?_,?_,?_⟩<;>kernel_rfl
abbrev Zvw:List Pk:=[Pk.int .u32,Pk.int .i64]
abbrev Zbao:List Pk:=[Pk.int .u32]
def Zzu (a0:Int) (n1:Int) (K:Int->Prop):Prop:=
 (0:Int) <= (IntKind.wrap .i64 (32 - n1))∧
 K (Znz .u32 a0 (IntKind.wrap .u32 (IntKind.wrap .u64 ((IntKind.wrap .u64 (1*(2^(min ((IntKind.wrap .i64 (32 - n1)):Int).toNat (IntKind.bits .u64))))) - 1))))
noncomputable def Zcqc:Tab:=⟨[],[]⟩
abbrev Zbrt (x:PkTs Zvw) (K:PkTs Zbao->Prop):Prop:=Zzu x.1 x.2.1 (fun r0=>K (r0,()))
theorem Zcth:FnQ Tryz.prog Zjf Zvw Zbao Zbrt:=(Zt Zcgc (tab:=Zcqc) ⟨trivial,trivial⟩ rfl).of_eq (by kernel_rfl)
noncomputable def Zbmn:Ct:=ctRd Zvw Zbao Zbrt
theorem Zcff:Zw Tryz.prog Zjf Zbmn:=Zde Zcth
theorem Zcsa:Known Tryz.prog Zbic Tryz.f28 Zes.plan (Zg Tryz.f28):=by refine ⟨Tryz.func28,?_,?_,?_,?_,?_⟩<;>kernel_rfl
noncomputable def Zchv:Tab:=⟨[],[]⟩
noncomputable def Zbrg:Ct:=Zst Tryz.prog Zchv Zes (Zg Tryz.f28) Tryz.f28.ntmps Tryz.f28.results.toList
theorem Zcvh:Zw Tryz.prog Zbic Zbrg:=Zbrx Zcsa ⟨trivial,trivial⟩
def Zor:PLoop:=⟨[],[2,3,4],[(2,[PK.row Zqp [Kd.int .u32,Kd.int .i64]]),(3,[PK.bool]),(4,[PK.row Zqp [Kd.int .u32,Kd.int .i64]])]⟩
def Zcjz:PPlan:=⟨[],[(4000003,Zor)],[],[],[],[]⟩
theorem Zcpn:Known Tryz.prog Ztv Tryz.f13 Zcjz.plan (Zg Tryz.f13):=by refine ⟨Tryz.func13,?_,?_,?_,?_,?_⟩<;>kernel_rfl
abbrev Zrf:List Pk:=[Pk.lst [Kd.int .u8]]
abbrev Zqb:List Pk:=[Pk.own Zqp [Kd.int .u32,Kd.int .i64],Pk.bool]
def Zbcx (c0:List (UInt32×Int)) (c0_1:Bool) (c0_2:List (UInt32×Int)) (K:List (UInt32×Int)->Bool->Prop):Prop:=
 K c0_2 true
def Zbva (c0_3:List (UInt32×Int)) (c0_4:Bool) (c0_5:List (UInt32×Int)) (x9:UInt32×Int) (x10:Bool) (next4000003:(List (UInt32×Int)×Bool×List (UInt32×Int)×Unit)->Prop) (K:List (UInt32×Int)->Bool->Prop):Prop:=
 IfB (!x10)
 (K ([]:List (UInt32×Int)) false)
 (c0_5.length+([((ofI .u32 (x9.1.toNat:Int)),x9.2)]:List (UInt32×Int)).length <= 8796093022112∧
 next4000003 (c0_3,c0_4,(c0_5++([((ofI .u32 (x9.1.toNat:Int)),x9.2)]:List (UInt32×Int))),()))
def Zqe (b0:List UInt8) (K:List (UInt32×Int)->Bool->Prop):Prop:=
 Zhx.pre (b0,())∧
 Zim (fun (y:(List (UInt32×Int)×Bool×List (UInt32×Int)×Unit))=>WfY Zor.kinds y->Zbcx y.1 y.2.1 y.2.2.1 K)
 (fun (y:(List (UInt32×Int)×Bool×List (UInt32×Int)×Unit)) (x:((UInt32×Int)×Bool×Unit)) (next:(List (UInt32×Int)×Bool×List (UInt32×Int)×Unit)->Prop)=>WfY Zor.kinds y->WfPs Zhx.ps x->Zbva y.1 y.2.1 y.2.2.1 x.1 x.2.1 next K) (Zhx.xs (b0,())) (([]:List (UInt32×Int)),false,([]:List (UInt32×Int)),())
noncomputable def Zcmm:Tab:=⟨[(Zbic,Zbrg)],[(Zqo,Zhx)]⟩
abbrev Zbsk (x:PkTs Zrf) (K:PkTs Zqb->Prop):Prop:=Zqe x.1 (fun r0 r1=>K (r0,r1,()))
theorem Zcpw:FnQ Tryz.prog Ztv Zrf Zqb Zbsk:=(Zt Zcpn (tab:=Zcmm) ⟨⟨Zcvh,trivial⟩,⟨Zctw,trivial⟩⟩ rfl).of_eq (by kernel_rfl)
noncomputable def Zbum:Ct:=Zcy Zrf Zqb Zbsk
theorem Zcec:Zw Tryz.prog Ztv Zbum:=Zdj Zcpw
def Zcib:PPlan:=⟨[(9,[0,1,2,3,4],[56]),(18,[0,1,2,3,4,5],[91])],[],[],[(9,[4]),(18,[15])],[],[]⟩
theorem Zcby:Known Tryz.prog Zra Tryz.f4 Zcib.plan (Zg Tryz.f4):=by refine ⟨Tryz.func4,?_,?_,?_,?_,?_⟩<;>kernel_rfl
abbrev Zpe:List Pk:=[Pk.lst [Kd.int .u8],Pk.bool]
abbrev Zon:List Pk:=[Pk.agg [Kd.lst [Kd.int .u32,Kd.int .i64],Kd.lst [Kd.int .u32,Kd.int .i64],Kd.int .i64,Kd.lst [Kd.bool,Kd.lst [Kd.int .u32]],Kd.int .u32,Kd.bool,Kd.int .u32,Kd.bool,Kd.int .u32,Kd.bool,Kd.bool,Kd.int .u32,Kd.int .u32,Kd.lst [Kd.int .u32],Kd.lst [Kd.int .i64,Kd.lst [Kd.int .u8]],Kd.int .i64],Pk.agg [Kd.int .i64,Kd.int .i64,Kd.lst [Kd.int .u8]],Pk.bool]
def Zlp (x49r1:Int) (j20:List (UInt32×Int)) (j21:Int) (j22:List (Bool×List UInt32)) (j23:Int) (j24:Bool) (j25:Int) (j26:Bool) (j27:Int) (j28:Bool) (j29:Bool) (j30:Int) (j31:Int) (j32:List UInt32) (j33:List (Int×List UInt8)) (j35:List (UInt32×Int)) (K:List (UInt32×Int)×List (UInt32×Int)×TyL1->(Int×Int×List UInt8)->Bool->Prop):Prop:=
 K (j35,j20,j21,j22,(ofI .u32 j23),j24,(ofI .u32 j25),j26,(ofI .u32 j27),j28,j29,(ofI .u32 j30),(ofI .u32 j31),j32,j33,x49r1) (0,0,([]:List UInt8)) true
def Zrg (x49r0:TyL2) (x49r1:Int) (x61r0:List (UInt32×Int)) (x66r0:List (UInt32×Int)) (j51:Bool) (K:List (UInt32×Int)×List (UInt32×Int)×TyL1->(Int×Int×List UInt8)->Bool->Prop):Prop:=
 IfB j51
 ((WfPs Zmn ((10:Int),())->
 Zlo (10:Int) (fun x76r0 x76r1 x76r2=>
 WfPs Zml (x76r0,x76r1,x76r2,())->
 K (x76r0.1,x76r0.2.1,x76r0.2.2.1,x76r0.2.2.2.1,(ofI .u32 (x76r0.2.2.2.2.1.toNat:Int)),x76r0.2.2.2.2.2.1,(ofI .u32 (x76r0.2.2.2.2.2.2.1.toNat:Int)),x76r0.2.2.2.2.2.2.2.1,(ofI .u32 (x76r0.2.2.2.2.2.2.2.2.1.toNat:Int)),x76r0.2.2.2.2.2.2.2.2.2.1,x76r0.2.2.2.2.2.2.2.2.2.2.1,(ofI .u32 (x76r0.2.2.2.2.2.2.2.2.2.2.2.1.toNat:Int)),(ofI .u32 (x76r0.2.2.2.2.2.2.2.2.2.2.2.2.1.toNat:Int)),x76r0.2.2.2.2.2.2.2.2.2.2.2.2.2.1,x76r0.2.2.2.2.2.2.2.2.2.2.2.2.2.2.1,x76r0.2.2.2.2.2.2.2.2.2.2.2.2.2.2.2) x76r1 x76r2)))
 (IfB ((x49r1:Int)==2)
 (x61r0.length+x66r0.length <= 8796093022112∧
 Zlp x49r1 ([]:List (UInt32×Int)) 0 ([]:List (Bool×List UInt32)) 0 false 0 false 0 false false 0 0 ([]:List UInt32) ([]:List (Int×List UInt8)) (x61r0++x66r0) K)
 (IfB (decide (((x66r0.length:Int):Int)>0))
 (Zlp x49r1 x66r0 x49r0.1 x49r0.2.1 (x49r0.2.2.1.toNat:Int) x49r0.2.2.2.1 (x49r0.2.2.2.2.1.toNat:Int) x49r0.2.2.2.2.2.1 (x49r0.2.2.2.2.2.2.1.toNat:Int) x49r0.2.2.2.2.2.2.2.1 x49r0.2.2.2.2.2.2.2.2.1 (x49r0.2.2.2.2.2.2.2.2.2.1.toNat:Int) (x49r0.2.2.2.2.2.2.2.2.2.2.1.toNat:Int) x49r0.2.2.2.2.2.2.2.2.2.2.2.1 x49r0.2.2.2.2.2.2.2.2.2.2.2.2 x61r0 K)
 (Zlp x49r1 ([]:List (UInt32×Int)) 0 ([]:List (Bool×List UInt32)) 0 false 0 false 0 false false 0 0 ([]:List UInt32) ([]:List (Int×List UInt8)) x61r0 K)))
def Zoe (b0:List UInt8) (four1:Bool) (K:List (UInt32×Int)×List (UInt32×Int)×TyL1->(Int×Int×List UInt8)->Bool->Prop):Prop:=
 (WfPs Zok (b0,())->
 Zjt b0 (fun x21r0 x21r1 x21r2=>
 WfPs Zrs (x21r0,x21r1,x21r2,())->
 IfB (!x21r2)
 ((WfPs Zmn ((1:Int),())->
 Zlo (1:Int) (fun x27r0 x27r1 x27r2=>
 WfPs Zml (x27r0,x27r1,x27r2,())->
 K (x27r0.1,x27r0.2.1,x27r0.2.2.1,x27r0.2.2.2.1,(ofI .u32 (x27r0.2.2.2.2.1.toNat:Int)),x27r0.2.2.2.2.2.1,(ofI .u32 (x27r0.2.2.2.2.2.2.1.toNat:Int)),x27r0.2.2.2.2.2.2.2.1,(ofI .u32 (x27r0.2.2.2.2.2.2.2.2.1.toNat:Int)),x27r0.2.2.2.2.2.2.2.2.2.1,x27r0.2.2.2.2.2.2.2.2.2.2.1,(ofI .u32 (x27r0.2.2.2.2.2.2.2.2.2.2.2.1.toNat:Int)),(ofI .u32 (x27r0.2.2.2.2.2.2.2.2.2.2.2.2.1.toNat:Int)),x27r0.2.2.2.2.2.2.2.2.2.2.2.2.2.1,x27r0.2.2.2.2.2.2.2.2.2.2.2.2.2.2.1,x27r0.2.2.2.2.2.2.2.2.2.2.2.2.2.2.2) x27r1 x27r2)))
 ((WfPs Zok (x21r1,())->
 Zjt x21r1 (fun x33r0 x33r1 x33r2=>
 WfPs Zrs (x33r0,x33r1,x33r2,())->
 IfB (!x33r2)
 ((WfPs Zmn ((1:Int),())->
 Zlo (1:Int) (fun x39r0 x39r1 x39r2=>
 WfPs Zml (x39r0,x39r1,x39r2,())->
 K (x39r0.1,x39r0.2.1,x39r0.2.2.1,x39r0.2.2.2.1,(ofI .u32 (x39r0.2.2.2.2.1.toNat:Int)),x39r0.2.2.2.2.2.1,(ofI .u32 (x39r0.2.2.2.2.2.2.1.toNat:Int)),x39r0.2.2.2.2.2.2.2.1,(ofI .u32 (x39r0.2.2.2.2.2.2.2.2.1.toNat:Int)),x39r0.2.2.2.2.2.2.2.2.2.1,x39r0.2.2.2.2.2.2.2.2.2.2.1,(ofI .u32 (x39r0.2.2.2.2.2.2.2.2.2.2.2.1.toNat:Int)),(ofI .u32 (x39r0.2.2.2.2.2.2.2.2.2.2.2.2.1.toNat:Int)),x39r0.2.2.2.2.2.2.2.2.2.2.2.2.2.1,x39r0.2.2.2.2.2.2.2.2.2.2.2.2.2.2.1,x39r0.2.2.2.2.2.2.2.2.2.2.2.2.2.2.2) x39r1 x39r2)))
 ((WfPs Zbid (x33r0,four1,(decide (((x33r1.length:Int):Int)>0)),())->
 Zbcn x33r0 four1 (decide (((x33r1.length:Int):Int)>0)) (fun x49r0 x49r1 x49r2=>
 WfPs Zbcq (x49r0,x49r1,x49r2,())->
 IfB ((x49r1:Int)==3)
 (K (([]:List (UInt32×Int)),([]:List (UInt32×Int)),0,([]:List (Bool×List UInt32)),(ofI .u32 0),false,(ofI .u32 0),false,(ofI .u32 0),false,false,(ofI .u32 0),(ofI .u32 0),([]:List UInt32),([]:List (Int×List UInt8)),0) x49r2 false)
 ((WfPs Zrf (x21r0,())->
 Zqe x21r0 (fun x61r0 x61r1=>
 WfPs Zqb (x61r0,x61r1,())->
 (WfPs Zrf (x33r1,())->
 Zqe x33r1 (fun x66r0 x66r1=>
 WfPs Zqb (x66r0,x66r1,())->
 IfB (!x61r1)
 (Zrg x49r0 x49r1 x61r0 x66r0 true K)
 (Zrg x49r0 x49r1 x61r0 x66r0 (!x66r1) K))))))))))))))
noncomputable def Zcig:Tab:=⟨[(Zzb,Zbrs),(Ztq,Zbom),(Zmc,Zbrz),(Ztv,Zbum)],[]⟩
abbrev Zbpx (x:PkTs Zpe) (K:PkTs Zon->Prop):Prop:=Zoe x.1 x.2.1 (fun r0 r1 r2=>K (r0,r1,r2,()))
theorem Zcdc:FnQ Tryz.prog Zra Zpe Zon Zbpx:=(Zt Zcby (tab:=Zcig) ⟨⟨Zcqm,Zcgs,Zcje,Zcec,trivial⟩,trivial⟩ rfl).of_eq (by kernel_rfl)
noncomputable def Zbex:Ct:=Zcy Zpe Zon Zbpx
theorem Zbko:Zw Tryz.prog Zra Zbex:=Zdj Zcdc
theorem Zcqd:Known Tryz.prog Zwr Tryz.f5 Zes.plan (Zg Tryz.f5):=by refine ⟨Tryz.func5,?_,?_,?_,?_,?_⟩<;>kernel_rfl
abbrev Zvp:List Pk:=[Pk.lst [Kd.int .u8]]
abbrev Zxx:List Pk:=[Pk.own Zec [Kd.int .u8]]
def Zbxu (b0:List UInt8) (K:List UInt8->Prop):Prop:=
 ([]:List UInt8).length+b0.length <= 140737488355232∧
 K (([]:List UInt8)++b0)
noncomputable def Zcsk:Tab:=⟨[],[]⟩
abbrev Zbjz (x:PkTs Zvp) (K:PkTs Zxx->Prop):Prop:=Zbxu x.1 (fun r0=>K (r0,()))
theorem Zcok:FnQ Tryz.prog Zwr Zvp Zxx Zbjz:=(Zt Zcqd (tab:=Zcsk) ⟨trivial,trivial⟩ rfl).of_eq (by kernel_rfl)
noncomputable def Zbun:Ct:=Zcy Zvp Zxx Zbjz
theorem Zcfb:Zw Tryz.prog Zwr Zbun:=Zdj Zcok
theorem Zccd:Known Tryz.prog Zuv Tryz.f14 Zes.plan (Zg Tryz.f14):=by refine ⟨Tryz.func14,?_,?_,?_,?_,?_⟩<;>kernel_rfl
abbrev Zmq:List Pk:=[Pk.lst [Kd.int .u8]]
abbrev Zmu:List Pk:=[Pk.int .i64]
def Zlz (b0:List UInt8) (K:Int->Prop):Prop:=
 (0:Int) <= 0∧AtN b0 0 fun x4=>
 WfT Zbz x4->
 (0:Int) <= 1∧AtN b0 1 fun x9=>
 WfT Zbz x9->
 K (IntKind.wrap .i64 ((IntKind.wrap .i64 (256*(IntKind.wrap .i64 (x4.toNat:Int))))+(IntKind.wrap .i64 (x9.toNat:Int))))
noncomputable def Zcuj:Tab:=⟨[],[]⟩
abbrev Zbwp (x:PkTs Zmq) (K:PkTs Zmu->Prop):Prop:=Zlz x.1 (fun r0=>K (r0,()))
theorem Zcku:FnQ Tryz.prog Zuv Zmq Zmu Zbwp:=(Zt Zccd (tab:=Zcuj) ⟨trivial,trivial⟩ rfl).of_eq (by kernel_rfl)
noncomputable def Zbtn:Ct:=ctRd Zmq Zmu Zbwp
theorem Zcnq:Zw Tryz.prog Zuv Zbtn:=Zde Zcku
theorem Zcgk:Known Tryz.prog Zur Tryz.f15 Zes.plan (Zg Tryz.f15):=by refine ⟨Tryz.func15,?_,?_,?_,?_,?_⟩<;>kernel_rfl
abbrev Zlv:List Pk:=[Pk.int .i64]
abbrev Zmo:List Pk:=[Pk.agg [Kd.lst [Kd.int .u32,Kd.int .i64],Kd.lst [Kd.int .u32,Kd.int .i64],Kd.int .i64,Kd.lst [Kd.bool,Kd.lst [Kd.int .u32]],Kd.int .u32,Kd.bool,Kd.int .u32,Kd.bool,Kd.int .u32,Kd.bool,Kd.bool,Kd.int .u32,Kd.int .u32,Kd.lst [Kd.int .u32],Kd.lst [Kd.int .i64,Kd.lst [Kd.int .u8]],Kd.int .i64],Pk.agg [Kd.int .i64,Kd.int .i64,Kd.lst [Kd.int .u8]],Pk.bool]
def Zki (sub0:Int) (K:List (UInt32×Int)×List (UInt32×Int)×TyL1->(Int×Int×List UInt8)->Bool->Prop):Prop:=
 K (([]:List (UInt32×Int)),([]:List (UInt32×Int)),0,([]:List (Bool×List UInt32)),(ofI .u32 0),false,(ofI .u32 0),false,(ofI .u32 0),false,false,(ofI .u32 0),(ofI .u32 0),([]:List UInt32),([]:List (Int×List UInt8)),0) (3,sub0,([]:List UInt8)) false
noncomputable def Zcty:Tab:=⟨[],[]⟩
abbrev Zbmb (x:PkTs Zlv) (K:PkTs Zmo->Prop):Prop:=Zki x.1 (fun r0 r1 r2=>K (r0,r1,r2,()))
theorem Zbzk:FnQ Tryz.prog Zur Zlv Zmo Zbmb:=(Zt Zcgk (tab:=Zcty) ⟨trivial,trivial⟩ rfl).of_eq (by kernel_rfl)
noncomputable def Zbpm:Ct:=Zcy Zlv Zmo Zbmb
theorem Zcps:Zw Tryz.prog Zur Zbpm:=Zdj Zbzk
def Zcry:PPlan:=⟨[(10,[0,1,2,3,4],[68])],[],[],[(10,[4])],[],[]⟩
theorem Zbyg:Known Tryz.prog Zzg Tryz.f6 Zcry.plan (Zg Tryz.f6):=by refine ⟨Tryz.func6,?_,?_,?_,?_,?_⟩<;>kernel_rfl
abbrev Zss:List Pk:=[Pk.lst [Kd.int .u8],Pk.bool]
abbrev Zzy:List Pk:=[Pk.agg [Kd.lst [Kd.int .u32,Kd.int .i64],Kd.lst [Kd.int .u32,Kd.int .i64],Kd.int .i64,Kd.lst [Kd.bool,Kd.lst [Kd.int .u32]],Kd.int .u32,Kd.bool,Kd.int .u32,Kd.bool,Kd.int .u32,Kd.bool,Kd.bool,Kd.int .u32,Kd.int .u32,Kd.lst [Kd.int .u32],Kd.lst [Kd.int .i64,Kd.lst [Kd.int .u8]],Kd.int .i64],Pk.agg [Kd.int .i64,Kd.int .i64,Kd.lst [Kd.int .u8]],Pk.bool]
def Zyy (j19:List (UInt32×Int)) (j20:List (UInt32×Int)) (x61r1:Int) (j21_1:Int) (j22:List (Bool×List UInt32)) (j23:Int) (j24:Bool) (j25:Int) (j26:Bool) (j27:Int) (j28:Bool) (j29:Bool) (j30:Int) (j31:Int) (j32:List UInt32) (j33:List (Int×List UInt8)) (K:List (UInt32×Int)×List (UInt32×Int)×TyL1->(Int×Int×List UInt8)->Bool->Prop):Prop:=
 K (j19,j20,j21_1,j22,(ofI .u32 j23),j24,(ofI .u32 j25),j26,(ofI .u32 j27),j28,j29,(ofI .u32 j30),(ofI .u32 j31),j32,j33,x61r1) (0,0,([]:List UInt8)) true
def Zzh (x61r0:TyL2) (x61r1:Int) (j19:List (UInt32×Int)) (j20:List (UInt32×Int)) (K:List (UInt32×Int)×List (UInt32×Int)×TyL1->(Int×Int×List UInt8)->Bool->Prop):Prop:=
 IfB (((j20.length:Int):Int)==0)
 (Zyy j19 j20 x61r1 0 ([]:List (Bool×List UInt32)) 0 false 0 false 0 false false 0 0 ([]:List UInt32) ([]:List (Int×List UInt8)) K)
 (Zyy j19 j20 x61r1 x61r0.1 x61r0.2.1 (x61r0.2.2.1.toNat:Int) x61r0.2.2.2.1 (x61r0.2.2.2.2.1.toNat:Int) x61r0.2.2.2.2.2.1 (x61r0.2.2.2.2.2.2.1.toNat:Int) x61r0.2.2.2.2.2.2.2.1 x61r0.2.2.2.2.2.2.2.2.1 (x61r0.2.2.2.2.2.2.2.2.2.1.toNat:Int) (x61r0.2.2.2.2.2.2.2.2.2.2.1.toNat:Int) x61r0.2.2.2.2.2.2.2.2.2.2.2.1 x61r0.2.2.2.2.2.2.2.2.2.2.2.2 K)
def Zqv (x61r0:TyL2) (x61r1:Int) (x74r0:List (UInt32×Int)) (x82r0:List (UInt32×Int)) (j35:Bool) (K:List (UInt32×Int)×List (UInt32×Int)×TyL1->(Int×Int×List UInt8)->Bool->Prop):Prop:=
 IfB j35
 ((WfPs Zlv ((10:Int),())->
 Zki (10:Int) (fun x91r0 x91r1 x91r2=>
 WfPs Zmo (x91r0,x91r1,x91r2,())->
 K (x91r0.1,x91r0.2.1,x91r0.2.2.1,x91r0.2.2.2.1,(ofI .u32 (x91r0.2.2.2.2.1.toNat:Int)),x91r0.2.2.2.2.2.1,(ofI .u32 (x91r0.2.2.2.2.2.2.1.toNat:Int)),x91r0.2.2.2.2.2.2.2.1,(ofI .u32 (x91r0.2.2.2.2.2.2.2.2.1.toNat:Int)),x91r0.2.2.2.2.2.2.2.2.2.1,x91r0.2.2.2.2.2.2.2.2.2.2.1,(ofI .u32 (x91r0.2.2.2.2.2.2.2.2.2.2.2.1.toNat:Int)),(ofI .u32 (x91r0.2.2.2.2.2.2.2.2.2.2.2.2.1.toNat:Int)),x91r0.2.2.2.2.2.2.2.2.2.2.2.2.2.1,x91r0.2.2.2.2.2.2.2.2.2.2.2.2.2.2.1,x91r0.2.2.2.2.2.2.2.2.2.2.2.2.2.2.2) x91r1 x91r2)))
 (IfB ((x61r1:Int)==2)
 (x74r0.length+x82r0.length <= 8796093022112∧
 Zzh x61r0 x61r1 (x74r0++x82r0) ([]:List (UInt32×Int)) K)
 (Zzh x61r0 x61r1 x74r0 x82r0 K))
def Zop (b0:List UInt8) (four1:Bool) (j21:Bool) (K:List (UInt32×Int)×List (UInt32×Int)×TyL1->(Int×Int×List UInt8)->Bool->Prop):Prop:=
 IfB j21
 ((WfPs Zlv ((1:Int),())->
 Zki (1:Int) (fun x29r0 x29r1 x29r2=>
 WfPs Zmo (x29r0,x29r1,x29r2,())->
 K (x29r0.1,x29r0.2.1,x29r0.2.2.1,x29r0.2.2.2.1,(ofI .u32 (x29r0.2.2.2.2.1.toNat:Int)),x29r0.2.2.2.2.2.1,(ofI .u32 (x29r0.2.2.2.2.2.2.1.toNat:Int)),x29r0.2.2.2.2.2.2.2.1,(ofI .u32 (x29r0.2.2.2.2.2.2.2.2.1.toNat:Int)),x29r0.2.2.2.2.2.2.2.2.2.1,x29r0.2.2.2.2.2.2.2.2.2.2.1,(ofI .u32 (x29r0.2.2.2.2.2.2.2.2.2.2.2.1.toNat:Int)),(ofI .u32 (x29r0.2.2.2.2.2.2.2.2.2.2.2.2.1.toNat:Int)),x29r0.2.2.2.2.2.2.2.2.2.2.2.2.2.1,x29r0.2.2.2.2.2.2.2.2.2.2.2.2.2.2.1,x29r0.2.2.2.2.2.2.2.2.2.2.2.2.2.2.2) x29r1 x29r2)))
 ((WfPs Zmq (b0,())->
 Zlz b0 (fun x34=>
 WfPs Zmu (x34,())->
 (0:Int) <= (IntKind.wrap .i64 (2+x34))∧(IntKind.wrap .i64 (2+x34)) <= (b0.length:Int)∧
 (WfPs Zmq ((b0.drop ((IntKind.wrap .i64 (2+x34)).toNat)),())->
 Zlz (b0.drop ((IntKind.wrap .i64 (2+x34)).toNat)) (fun x40=>
 WfPs Zmu (x40,())->
 IfB (decide ((x40:Int)>(IntKind.wrap .i64 (((b0.drop ((IntKind.wrap .i64 (2+x34)).toNat)).length:Int) - 2))))
 ((WfPs Zlv ((1:Int),())->
 Zki (1:Int) (fun x46r0 x46r1 x46r2=>
 WfPs Zmo (x46r0,x46r1,x46r2,())->
 K (x46r0.1,x46r0.2.1,x46r0.2.2.1,x46r0.2.2.2.1,(ofI .u32 (x46r0.2.2.2.2.1.toNat:Int)),x46r0.2.2.2.2.2.1,(ofI .u32 (x46r0.2.2.2.2.2.2.1.toNat:Int)),x46r0.2.2.2.2.2.2.2.1,(ofI .u32 (x46r0.2.2.2.2.2.2.2.2.1.toNat:Int)),x46r0.2.2.2.2.2.2.2.2.2.1,x46r0.2.2.2.2.2.2.2.2.2.2.1,(ofI .u32 (x46r0.2.2.2.2.2.2.2.2.2.2.2.1.toNat:Int)),(ofI .u32 (x46r0.2.2.2.2.2.2.2.2.2.2.2.2.1.toNat:Int)),x46r0.2.2.2.2.2.2.2.2.2.2.2.2.2.1,x46r0.2.2.2.2.2.2.2.2.2.2.2.2.2.2.1,x46r0.2.2.2.2.2.2.2.2.2.2.2.2.2.2.2) x46r1 x46r2)))
 ((0:Int) <= (IntKind.wrap .i64 (2+x40))∧(IntKind.wrap .i64 (2+x40)) <= ((b0.drop ((IntKind.wrap .i64 (2+x34)).toNat)).length:Int)∧
 (0:Int) <= 2∧2 <= ((IntKind.wrap .i64 (2+x40)).toNat:Int)∧
 (WfPs Zbbi ((((b0.drop ((IntKind.wrap .i64 (2+x34)).toNat)).take ((IntKind.wrap .i64 (2+x40)).toNat)).drop 2),four1,(decide ((((b0.drop ((IntKind.wrap .i64 (2+x34)).toNat)).length:Int):Int)>(IntKind.wrap .i64 (2+x40)))),())->
 Zbib (((b0.drop ((IntKind.wrap .i64 (2+x34)).toNat)).take ((IntKind.wrap .i64 (2+x40)).toNat)).drop 2) four1 (decide ((((b0.drop ((IntKind.wrap .i64 (2+x34)).toNat)).length:Int):Int)>(IntKind.wrap .i64 (2+x40)))) (fun x61r0 x61r1 x61r2=>
 WfPs Zbfn (x61r0,x61r1,x61r2,())->
 IfB ((x61r1:Int)==3)
 (K (([]:List (UInt32×Int)),([]:List (UInt32×Int)),0,([]:List (Bool×List UInt32)),(ofI .u32 0),false,(ofI .u32 0),false,(ofI .u32 0),false,false,(ofI .u32 0),(ofI .u32 0),([]:List UInt32),([]:List (Int×List UInt8)),0) x61r2 false)
 ((0:Int) <= (IntKind.wrap .i64 (2+x34))∧(IntKind.wrap .i64 (2+x34)) <= (b0.length:Int)∧
 (0:Int) <= 2∧2 <= ((IntKind.wrap .i64 (2+x34)).toNat:Int)∧
 (WfPs Znv (((b0.take ((IntKind.wrap .i64 (2+x34)).toNat)).drop 2),())->
 Zly ((b0.take ((IntKind.wrap .i64 (2+x34)).toNat)).drop 2) (fun x74r0 x74r1=>
 WfPs Zmy (x74r0,x74r1,())->
 (0:Int) <= (IntKind.wrap .i64 (2+x40))∧(IntKind.wrap .i64 (2+x40)) <= ((b0.drop ((IntKind.wrap .i64 (2+x34)).toNat)).length:Int)∧
 (WfPs Znv (((b0.drop ((IntKind.wrap .i64 (2+x34)).toNat)).drop ((IntKind.wrap .i64 (2+x40)).toNat)),())->
 Zly ((b0.drop ((IntKind.wrap .i64 (2+x34)).toNat)).drop ((IntKind.wrap .i64 (2+x40)).toNat)) (fun x82r0 x82r1=>
 WfPs Zmy (x82r0,x82r1,())->
 IfB (!x74r1)
 (Zqv x61r0 x61r1 x74r0 x82r0 true K)
 (Zqv x61r0 x61r1 x74r0 x82r0 (!x82r1) K))))))))))))))
def Zwj (b0:List UInt8) (four1:Bool) (K:List (UInt32×Int)×List (UInt32×Int)×TyL1->(Int×Int×List UInt8)->Bool->Prop):Prop:=
 IfB (decide (((b0.length:Int):Int)<4))
 (Zop b0 four1 true K)
 ((WfPs Zmq (b0,())->
 Zlz b0 (fun x23=>
 WfPs Zmu (x23,())->
 Zop b0 four1 (decide ((x23:Int)>(IntKind.wrap .i64 ((b0.length:Int) - 4)))) K)))
noncomputable def Zcvp:Tab:=⟨[(Zuv,Zbtn),(Zur,Zbpm),(Zmv,Zbvi),(Zuk,Zbpd)],[]⟩
abbrev Zblp (x:PkTs Zss) (K:PkTs Zzy->Prop):Prop:=Zwj x.1 x.2.1 (fun r0 r1 r2=>K (r0,r1,r2,()))
theorem Zcog:FnQ Tryz.prog Zzg Zss Zzy Zblp:=(Zt Zbyg (tab:=Zcvp) ⟨⟨Zcnq,Zcps,Zckh,Zcbh,trivial⟩,trivial⟩ rfl).of_eq (by kernel_rfl)
noncomputable def Zboc:Ct:=Zcy Zss Zzy Zblp
theorem Zcvb:Zw Tryz.prog Zzg Zboc:=Zdj Zcog
def Zbsn:PLoop:=⟨[(5,PK.int .i64)],[0,1],[]⟩
def Zbzh:PPlan:=⟨[],[(4,Zbsn)],[],[],[],[]⟩
theorem Zbze:Known Tryz.prog Ztt Tryz.f18 Zbzh.plan (Zg Tryz.f18):=by refine ⟨Tryz.func18,?_,?_,?_,?_,?_⟩<;>kernel_rfl
abbrev Zqm:List Pk:=[Pk.lst [Kd.int .u32,Kd.int .i64],Pk.lst [Kd.int .u32,Kd.int .i64]]
abbrev Zsd:List Pk:=[Pk.bool]
def Zbdp (a0:List (UInt32×Int)) (b1:List (UInt32×Int)) (i5:Int) (next4:(Int×Unit)->Prop) (K:Bool->Prop):Prop:=
 IfB (decide ((i5:Int)<(a0.length:Int)))
 ((0:Int) <= i5∧AtN a0 i5.toNat fun x19=>
 WfT Zrr x19->
 (0:Int) <= i5∧AtN b1 i5.toNat fun x23=>
 WfT Zrr x23->
 IfB (!((((x19.1.toNat:Int):Int)==(x23.1.toNat:Int))&&(((x19.2:Int)==x23.2)&&true)))
 (K false)
 (next4 ((IntKind.wrap .i64 (i5+1)),())))
 (K true)
def Zpm (a0:List (UInt32×Int)) (b1:List (UInt32×Int)) (K:Bool->Prop):Prop:=
 IfB (((a0.length:Int):Int) !=(b1.length:Int))
 (K false)
 (Zk (Int×Unit) ((0:Int),()) fun y next=>
 WfY Zbsn.kinds y->
 Zbdp a0 b1 y.1 next K)
noncomputable def Zclu:Tab:=⟨[],[]⟩
abbrev Zbnz (x:PkTs Zqm) (K:PkTs Zsd->Prop):Prop:=Zpm x.1 x.2.1 (fun r0=>K (r0,()))
theorem Zciw:FnQ Tryz.prog Ztt Zqm Zsd Zbnz:=(Zt Zbze (tab:=Zclu) ⟨trivial,trivial⟩ rfl).of_eq (by kernel_rfl)
noncomputable def Zbxa:Ct:=ctRd Zqm Zsd Zbnz
theorem Zcgb:Zw Tryz.prog Ztt Zbxa:=Zde Zciw
def Zbvg:PLoop:=⟨[(5,PK.int .i64)],[0,1],[]⟩
def Zbxk:PLoop:=⟨[(6,PK.int .i64)],[0,1,5],[]⟩
def Zcdw:PPlan:=⟨[],[(4,Zbvg),(9,Zbxk)],[],[],[],[]⟩
theorem Zcgh:Known Tryz.prog Zub Tryz.f37 Zcdw.plan (Zg Tryz.f37):=by refine ⟨Tryz.func37,?_,?_,?_,?_,?_⟩<;>kernel_rfl
abbrev Zyu:List Pk:=[Pk.lst [Kd.bool,Kd.lst [Kd.int .u32]],Pk.lst [Kd.bool,Kd.lst [Kd.int .u32]]]
abbrev Zxl:List Pk:=[Pk.bool]
def Zbaw (a0:List (Bool×List UInt32)) (b1:List (Bool×List UInt32)) (i5:Int) (next4:(Int×Unit)->Prop) (k6:Int) (next9:(Int×Unit)->Prop) (K:Bool->Prop):Prop:=
 (0:Int) <= i5∧AtN a0 i5.toNat fun x47=>
 WfT Zcw x47->
 IfB (decide ((k6:Int)<(x47.2.length:Int)))
 ((0:Int) <= i5∧AtN a0 i5.toNat fun x56=>
 WfT Zcw x56->
 (0:Int) <= k6∧AtN x56.2 k6.toNat fun x60=>
 WfT Zmr x60->
 (0:Int) <= i5∧AtN b1 i5.toNat fun x64=>
 WfT Zcw x64->
 (0:Int) <= k6∧AtN x64.2 k6.toNat fun x68=>
 WfT Zmr x68->
 IfB (((x60.toNat:Int):Int) !=(x68.toNat:Int))
 (K false)
 (next9 ((IntKind.wrap .i64 (k6+1)),())))
 (next4 ((IntKind.wrap .i64 (i5+1)),()))
def Ztm (a0:List (Bool×List UInt32)) (b1:List (Bool×List UInt32)) (i5:Int) (next4:(Int×Unit)->Prop) (j3:Bool) (K:Bool->Prop):Prop:=
 IfB j3
 (K false)
 (Zk (Int×Unit) ((0:Int),()) fun y next=>
 WfY Zbxk.kinds y->
 Zbaw a0 b1 i5 next4 y.1 next K)
def Zbar (a0:List (Bool×List UInt32)) (b1:List (Bool×List UInt32)) (i5:Int) (next4:(Int×Unit)->Prop) (K:Bool->Prop):Prop:=
 IfB (decide ((i5:Int)<(a0.length:Int)))
 ((0:Int) <= i5∧AtN a0 i5.toNat fun x20=>
 WfT Zcw x20->
 (0:Int) <= i5∧AtN b1 i5.toNat fun x25=>
 WfT Zcw x25->
 IfB (!(x20.1==x25.1))
 (Ztm a0 b1 i5 next4 true K)
 ((0:Int) <= i5∧AtN a0 i5.toNat fun x32=>
 WfT Zcw x32->
 (0:Int) <= i5∧AtN b1 i5.toNat fun x38=>
 WfT Zcw x38->
 Ztm a0 b1 i5 next4 (((x32.2.length:Int):Int) !=(x38.2.length:Int)) K))
 (K true)
def Zze (a0:List (Bool×List UInt32)) (b1:List (Bool×List UInt32)) (K:Bool->Prop):Prop:=
 IfB (((a0.length:Int):Int) !=(b1.length:Int))
 (K false)
 (Zk (Int×Unit) ((0:Int),()) fun y next=>
 WfY Zbvg.kinds y->
 Zbar a0 b1 y.1 next K)
noncomputable def Zcpf:Tab:=⟨[],[]⟩
abbrev Zbqe (x:PkTs Zyu) (K:PkTs Zxl->Prop):Prop:=Zze x.1 x.2.1 (fun r0=>K (r0,()))
theorem Zcko:FnQ Tryz.prog Zub Zyu Zxl Zbqe:=(Zt Zcgh (tab:=Zcpf) ⟨trivial,trivial⟩ rfl).of_eq (by kernel_rfl)
noncomputable def Zbwa:Ct:=ctRd Zyu Zxl Zbqe
theorem Zciq:Zw Tryz.prog Zub Zbwa:=Zde Zcko
def Zbqq:PLoop:=⟨[(5,PK.int .i64)],[2,3],[]⟩
def Zblg:PLoop:=⟨[(6,PK.int .i64)],[2,3],[]⟩
def Zbyw:PPlan:=⟨[],[(4,Zbqq),(9,Zblg)],[],[],[],[]⟩
theorem Zcoz:Known Tryz.prog Zxc Tryz.f19 Zbyw.plan (Zg Tryz.f19):=by refine ⟨Tryz.func19,?_,?_,?_,?_,?_⟩<;>kernel_rfl
abbrev Zzn:List Pk:=[Pk.agg [Kd.int .i64,Kd.lst [Kd.bool,Kd.lst [Kd.int .u32]],Kd.int .u32,Kd.bool,Kd.int .u32,Kd.bool,Kd.int .u32,Kd.bool,Kd.bool,Kd.int .u32,Kd.int .u32,Kd.lst [Kd.int .u32],Kd.lst [Kd.int .i64,Kd.lst [Kd.int .u8]]],Pk.agg [Kd.int .i64,Kd.lst [Kd.bool,Kd.lst [Kd.int .u32]],Kd.int .u32,Kd.bool,Kd.int .u32,Kd.bool,Kd.int .u32,Kd.bool,Kd.bool,Kd.int .u32,Kd.int .u32,Kd.lst [Kd.int .u32],Kd.lst [Kd.int .i64,Kd.lst [Kd.int .u8]]]]
abbrev Zvx:List Pk:=[Pk.bool]
def Zun (a0:TyL2) (b1:TyL2) (i6:Int) (next9:(Int×Unit)->Prop) (j27:Bool) (K:Bool->Prop):Prop:=
 IfB j27
 (K false)
 (next9 ((IntKind.wrap .i64 (i6+1)),()))
def Zbdq (a0:TyL2) (b1:TyL2) (i6:Int) (next9:(Int×Unit)->Prop) (K:Bool->Prop):Prop:=
 IfB (decide ((i6:Int)<(a0.2.2.2.2.2.2.2.2.2.2.2.2.length:Int)))
 ((0:Int) <= i6∧AtN a0.2.2.2.2.2.2.2.2.2.2.2.2 i6.toNat fun x141=>
 WfT Zxe x141->
 (0:Int) <= i6∧AtN b1.2.2.2.2.2.2.2.2.2.2.2.2 i6.toNat fun x147=>
 WfT Zxe x147->
 IfB ((x141.1:Int) !=x147.1)
 (Zun a0 b1 i6 next9 true K)
 ((0:Int) <= i6∧AtN a0.2.2.2.2.2.2.2.2.2.2.2.2 i6.toNat fun x155=>
 WfT Zxe x155->
 (0:Int) <= i6∧AtN b1.2.2.2.2.2.2.2.2.2.2.2.2 i6.toNat fun x162=>
 WfT Zxe x162->
 Zun a0 b1 i6 next9 (!(x155.2==x162.2)) K))
 (K true)
def Zbfl (a0:TyL2) (b1:TyL2) (i5:Int) (next4:(Int×Unit)->Prop) (K:Bool->Prop):Prop:=
 IfB (decide ((i5:Int)<(a0.2.2.2.2.2.2.2.2.2.2.2.1.length:Int)))
 ((0:Int) <= i5∧AtN a0.2.2.2.2.2.2.2.2.2.2.2.1 i5.toNat fun x123=>
 WfT Zmr x123->
 (0:Int) <= i5∧AtN b1.2.2.2.2.2.2.2.2.2.2.2.1 i5.toNat fun x128=>
 WfT Zmr x128->
 IfB (((x123.toNat:Int):Int) !=(x128.toNat:Int))
 (K false)
 (next4 ((IntKind.wrap .i64 (i5+1)),())))
 (Zk (Int×Unit) ((0:Int),()) fun y next=>
 WfY Zblg.kinds y->
 Zbdq a0 b1 y.1 next K)
def Zbc (a0:TyL2) (b1:TyL2) (j26:Bool) (K:Bool->Prop):Prop:=
 IfB j26
 (K false)
 (Zk (Int×Unit) ((0:Int),()) fun y next=>
 WfY Zbqq.kinds y->
 Zbfl a0 b1 y.1 next K)
def Zum (a0:TyL2) (b1:TyL2) (K:Bool->Prop):Prop:=
 IfB ((a0.1:Int) !=b1.1)
 (Zbc a0 b1 true K)
 ((WfPs Zyu (a0.2.1,b1.2.1,())->
 Zze a0.2.1 b1.2.1 (fun x17=>
 WfPs Zxl (x17,())->
 IfB (!x17)
 (Zbc a0 b1 true K)
 (IfB (((a0.2.2.1.toNat:Int):Int) !=(b1.2.2.1.toNat:Int))
 (Zbc a0 b1 true K)
 (IfB (!(a0.2.2.2.1==b1.2.2.2.1))
 (Zbc a0 b1 true K)
 (IfB a0.2.2.2.1
 (IfB (((a0.2.2.2.2.1.toNat:Int):Int) !=(b1.2.2.2.2.1.toNat:Int))
 (Zbc a0 b1 true K)
 (IfB (!(a0.2.2.2.2.2.1==b1.2.2.2.2.2.1))
 (Zbc a0 b1 true K)
 (IfB a0.2.2.2.2.2.1
 (IfB (((a0.2.2.2.2.2.2.1.toNat:Int):Int) !=(b1.2.2.2.2.2.2.1.toNat:Int))
 (Zbc a0 b1 true K)
 (IfB (!(a0.2.2.2.2.2.2.2.1==b1.2.2.2.2.2.2.2.1))
 (Zbc a0 b1 true K)
 (IfB (!(a0.2.2.2.2.2.2.2.2.1==b1.2.2.2.2.2.2.2.2.1))
 (Zbc a0 b1 true K)
 (IfB a0.2.2.2.2.2.2.2.2.1
 (IfB (((a0.2.2.2.2.2.2.2.2.2.1.toNat:Int):Int) !=(b1.2.2.2.2.2.2.2.2.2.1.toNat:Int))
 (Zbc a0 b1 true K)
 (IfB (((a0.2.2.2.2.2.2.2.2.2.2.1.toNat:Int):Int) !=(b1.2.2.2.2.2.2.2.2.2.2.1.toNat:Int))
 (Zbc a0 b1 true K)
 (IfB (((a0.2.2.2.2.2.2.2.2.2.2.2.1.length:Int):Int) !=(b1.2.2.2.2.2.2.2.2.2.2.2.1.length:Int))
 (Zbc a0 b1 true K)
 (Zbc a0 b1 (((a0.2.2.2.2.2.2.2.2.2.2.2.2.length:Int):Int) !=(b1.2.2.2.2.2.2.2.2.2.2.2.2.length:Int)) K))))
 (IfB (((a0.2.2.2.2.2.2.2.2.2.2.2.1.length:Int):Int) !=(b1.2.2.2.2.2.2.2.2.2.2.2.1.length:Int))
 (Zbc a0 b1 true K)
 (Zbc a0 b1 (((a0.2.2.2.2.2.2.2.2.2.2.2.2.length:Int):Int) !=(b1.2.2.2.2.2.2.2.2.2.2.2.2.length:Int)) K))))))
 (IfB (!(a0.2.2.2.2.2.2.2.1==b1.2.2.2.2.2.2.2.1))
 (Zbc a0 b1 true K)
 (IfB (!(a0.2.2.2.2.2.2.2.2.1==b1.2.2.2.2.2.2.2.2.1))
 (Zbc a0 b1 true K)
 (IfB a0.2.2.2.2.2.2.2.2.1
 (IfB (((a0.2.2.2.2.2.2.2.2.2.1.toNat:Int):Int) !=(b1.2.2.2.2.2.2.2.2.2.1.toNat:Int))
 (Zbc a0 b1 true K)
 (IfB (((a0.2.2.2.2.2.2.2.2.2.2.1.toNat:Int):Int) !=(b1.2.2.2.2.2.2.2.2.2.2.1.toNat:Int))
 (Zbc a0 b1 true K)
 (IfB (((a0.2.2.2.2.2.2.2.2.2.2.2.1.length:Int):Int) !=(b1.2.2.2.2.2.2.2.2.2.2.2.1.length:Int))
 (Zbc a0 b1 true K)
 (Zbc a0 b1 (((a0.2.2.2.2.2.2.2.2.2.2.2.2.length:Int):Int) !=(b1.2.2.2.2.2.2.2.2.2.2.2.2.length:Int)) K))))
 (IfB (((a0.2.2.2.2.2.2.2.2.2.2.2.1.length:Int):Int) !=(b1.2.2.2.2.2.2.2.2.2.2.2.1.length:Int))
 (Zbc a0 b1 true K)
 (Zbc a0 b1 (((a0.2.2.2.2.2.2.2.2.2.2.2.2.length:Int):Int) !=(b1.2.2.2.2.2.2.2.2.2.2.2.2.length:Int)) K))))))))
 (IfB (!(a0.2.2.2.2.2.1==b1.2.2.2.2.2.1))
 (Zbc a0 b1 true K)
 (IfB a0.2.2.2.2.2.1
 (IfB (((a0.2.2.2.2.2.2.1.toNat:Int):Int) !=(b1.2.2.2.2.2.2.1.toNat:Int))
 (Zbc a0 b1 true K)
 (IfB (!(a0.2.2.2.2.2.2.2.1==b1.2.2.2.2.2.2.2.1))
 (Zbc a0 b1 true K)
 (IfB (!(a0.2.2.2.2.2.2.2.2.1==b1.2.2.2.2.2.2.2.2.1))
 (Zbc a0 b1 true K)
 (IfB a0.2.2.2.2.2.2.2.2.1
 (IfB (((a0.2.2.2.2.2.2.2.2.2.1.toNat:Int):Int) !=(b1.2.2.2.2.2.2.2.2.2.1.toNat:Int))
 (Zbc a0 b1 true K)
 (IfB (((a0.2.2.2.2.2.2.2.2.2.2.1.toNat:Int):Int) !=(b1.2.2.2.2.2.2.2.2.2.2.1.toNat:Int))
 (Zbc a0 b1 true K)
 (IfB (((a0.2.2.2.2.2.2.2.2.2.2.2.1.length:Int):Int) !=(b1.2.2.2.2.2.2.2.2.2.2.2.1.length:Int))
 (Zbc a0 b1 true K)
 (Zbc a0 b1 (((a0.2.2.2.2.2.2.2.2.2.2.2.2.length:Int):Int) !=(b1.2.2.2.2.2.2.2.2.2.2.2.2.length:Int)) K))))
 (IfB (((a0.2.2.2.2.2.2.2.2.2.2.2.1.length:Int):Int) !=(b1.2.2.2.2.2.2.2.2.2.2.2.1.length:Int))
 (Zbc a0 b1 true K)
 (Zbc a0 b1 (((a0.2.2.2.2.2.2.2.2.2.2.2.2.length:Int):Int) !=(b1.2.2.2.2.2.2.2.2.2.2.2.2.length:Int)) K))))))
 (IfB (!(a0.2.2.2.2.2.2.2.1==b1.2.2.2.2.2.2.2.1))
 (Zbc a0 b1 true K)
 (IfB (!(a0.2.2.2.2.2.2.2.2.1==b1.2.2.2.2.2.2.2.2.1))
 (Zbc a0 b1 true K)
 (IfB a0.2.2.2.2.2.2.2.2.1
 (IfB (((a0.2.2.2.2.2.2.2.2.2.1.toNat:Int):Int) !=(b1.2.2.2.2.2.2.2.2.2.1.toNat:Int))
 (Zbc a0 b1 true K)
 (IfB (((a0.2.2.2.2.2.2.2.2.2.2.1.toNat:Int):Int) !=(b1.2.2.2.2.2.2.2.2.2.2.1.toNat:Int))
 (Zbc a0 b1 true K)
 (IfB (((a0.2.2.2.2.2.2.2.2.2.2.2.1.length:Int):Int) !=(b1.2.2.2.2.2.2.2.2.2.2.2.1.length:Int))
 (Zbc a0 b1 true K)
 (Zbc a0 b1 (((a0.2.2.2.2.2.2.2.2.2.2.2.2.length:Int):Int) !=(b1.2.2.2.2.2.2.2.2.2.2.2.2.length:Int)) K))))
 (IfB (((a0.2.2.2.2.2.2.2.2.2.2.2.1.length:Int):Int) !=(b1.2.2.2.2.2.2.2.2.2.2.2.1.length:Int))
 (Zbc a0 b1 true K)
 (Zbc a0 b1 (((a0.2.2.2.2.2.2.2.2.2.2.2.2.length:Int):Int) !=(b1.2.2.2.2.2.2.2.2.2.2.2.2.length:Int)) K)))))))))))))
noncomputable def Zcek:Tab:=⟨[(Zub,Zbwa)],[]⟩
abbrev Zbjj (x:PkTs Zzn) (K:PkTs Zvx->Prop):Prop:=Zum x.1 x.2.1 (fun r0=>K (r0,()))
theorem Zcgw:FnQ Tryz.prog Zxc Zzn Zvx Zbjj:=(Zt Zcoz (tab:=Zcek) ⟨⟨Zciq,trivial⟩,trivial⟩ rfl).of_eq (by kernel_rfl)
noncomputable def Zbuy:Ct:=ctRd Zzn Zvx Zbjj
theorem Zcqw:Zw Tryz.prog Zxc Zbuy:=Zde Zcgw
theorem Zcav:Known Tryz.prog Zxb Tryz.f7 Zes.plan (Zg Tryz.f7):=by refine ⟨Tryz.func7,?_,?_,?_,?_,?_⟩<;>kernel_rfl
abbrev Zwy:List Pk:=[Pk.agg [Kd.lst [Kd.int .u32,Kd.int .i64],Kd.lst [Kd.int .u32,Kd.int .i64],Kd.int .i64,Kd.lst [Kd.bool,Kd.lst [Kd.int .u32]],Kd.int .u32,Kd.bool,Kd.int .u32,Kd.bool,Kd.int .u32,Kd.bool,Kd.bool,Kd.int .u32,Kd.int .u32,Kd.lst [Kd.int .u32],Kd.lst [Kd.int .i64,Kd.lst [Kd.int .u8]],Kd.int .i64],Pk.agg [Kd.lst [Kd.int .u32,Kd.int .i64],Kd.lst [Kd.int .u32,Kd.int .i64],Kd.int .i64,Kd.lst [Kd.bool,Kd.lst [Kd.int .u32]],Kd.int .u32,Kd.bool,Kd.int .u32,Kd.bool,Kd.int .u32,Kd.bool,Kd.bool,Kd.int .u32,Kd.int .u32,Kd.lst [Kd.int .u32],Kd.lst [Kd.int .i64,Kd.lst [Kd.int .u8]],Kd.int .i64]]
abbrev Zzz:List Pk:=[Pk.bool]
def Zuw (a0:List (UInt32×Int)×List (UInt32×Int)×TyL1) (b1:List (UInt32×Int)×List (UInt32×Int)×TyL1) (K:Bool->Prop):Prop:=
 (WfPs Zqm (a0.1,b1.1,())->
 Zpm a0.1 b1.1 (fun x9=>
 WfPs Zsd (x9,())->
 IfB x9
 ((WfPs Zqm (a0.2.1,b1.2.1,())->
 Zpm a0.2.1 b1.2.1 (fun x15=>
 WfPs Zsd (x15,())->
 IfB x15
 ((WfPs Zzn (((a0.2.2.1,a0.2.2.2.1,(ofI .u32 (a0.2.2.2.2.1.toNat:Int)),a0.2.2.2.2.2.1,(ofI .u32 (a0.2.2.2.2.2.2.1.toNat:Int)),a0.2.2.2.2.2.2.2.1,(ofI .u32 (a0.2.2.2.2.2.2.2.2.1.toNat:Int)),a0.2.2.2.2.2.2.2.2.2.1,a0.2.2.2.2.2.2.2.2.2.2.1,(ofI .u32 (a0.2.2.2.2.2.2.2.2.2.2.2.1.toNat:Int)),(ofI .u32 (a0.2.2.2.2.2.2.2.2.2.2.2.2.1.toNat:Int)),a0.2.2.2.2.2.2.2.2.2.2.2.2.2.1,a0.2.2.2.2.2.2.2.2.2.2.2.2.2.2.1):TyL2),((b1.2.2.1,b1.2.2.2.1,(ofI .u32 (b1.2.2.2.2.1.toNat:Int)),b1.2.2.2.2.2.1,(ofI .u32 (b1.2.2.2.2.2.2.1.toNat:Int)),b1.2.2.2.2.2.2.2.1,(ofI .u32 (b1.2.2.2.2.2.2.2.2.1.toNat:Int)),b1.2.2.2.2.2.2.2.2.2.1,b1.2.2.2.2.2.2.2.2.2.2.1,(ofI .u32 (b1.2.2.2.2.2.2.2.2.2.2.2.1.toNat:Int)),(ofI .u32 (b1.2.2.2.2.2.2.2.2.2.2.2.2.1.toNat:Int)),b1.2.2.2.2.2.2.2.2.2.2.2.2.2.1,b1.2.2.2.2.2.2.2.2.2.2.2.2.2.2.1):TyL2),())->
 Zum ((a0.2.2.1,a0.2.2.2.1,(ofI .u32 (a0.2.2.2.2.1.toNat:Int)),a0.2.2.2.2.2.1,(ofI .u32 (a0.2.2.2.2.2.2.1.toNat:Int)),a0.2.2.2.2.2.2.2.1,(ofI .u32 (a0.2.2.2.2.2.2.2.2.1.toNat:Int)),a0.2.2.2.2.2.2.2.2.2.1,a0.2.2.2.2.2.2.2.2.2.2.1,(ofI .u32 (a0.2.2.2.2.2.2.2.2.2.2.2.1.toNat:Int)),(ofI .u32 (a0.2.2.2.2.2.2.2.2.2.2.2.2.1.toNat:Int)),a0.2.2.2.2.2.2.2.2.2.2.2.2.2.1,a0.2.2.2.2.2.2.2.2.2.2.2.2.2.2.1):TyL2) ((b1.2.2.1,b1.2.2.2.1,(ofI .u32 (b1.2.2.2.2.1.toNat:Int)),b1.2.2.2.2.2.1,(ofI .u32 (b1.2.2.2.2.2.2.1.toNat:Int)),b1.2.2.2.2.2.2.2.1,(ofI .u32 (b1.2.2.2.2.2.2.2.2.1.toNat:Int)),b1.2.2.2.2.2.2.2.2.2.1,b1.2.2.2.2.2.2.2.2.2.2.1,(ofI .u32 (b1.2.2.2.2.2.2.2.2.2.2.2.1.toNat:Int)),(ofI .u32 (b1.2.2.2.2.2.2.2.2.2.2.2.2.1.toNat:Int)),b1.2.2.2.2.2.2.2.2.2.2.2.2.2.1,b1.2.2.2.2.2.2.2.2.2.2.2.2.2.2.1):TyL2) (fun x22=>
 WfPs Zvx (x22,())->
 IfB x22
 (K ((a0.2.2.2.2.2.2.2.2.2.2.2.2.2.2.2:Int)==b1.2.2.2.2.2.2.2.2.2.2.2.2.2.2.2))
 (K false))))
 (K false))))
 (K false)))
noncomputable def Zcas:Tab:=⟨[(Ztt,Zbxa),(Zxc,Zbuy)],[]⟩
abbrev Zbub (x:PkTs Zwy) (K:PkTs Zzz->Prop):Prop:=Zuw x.1 x.2.1 (fun r0=>K (r0,()))
theorem Zcbg:FnQ Tryz.prog Zxb Zwy Zzz Zbub:=(Zt Zcav (tab:=Zcas) ⟨⟨Zcgb,Zcqw,trivial⟩,trivial⟩ rfl).of_eq (by kernel_rfl)
noncomputable def Zbmc:Ct:=ctRd Zwy Zzz Zbub
theorem Zcpm:Zw Tryz.prog Zxb Zbmc:=Zde Zcbg
theorem Zcfl:Known Tryz.prog Zoc Tryz.f8 Zes.plan (Zg Tryz.f8):=by refine ⟨Tryz.func8,?_,?_,?_,?_,?_⟩<;>kernel_rfl
abbrev Zrl:List Pk:=[Pk.lst [Kd.int .u8],Pk.lst [Kd.int .u8]]
abbrev Zql:List Pk:=[Pk.bool]
def Zpz (a0:List UInt8) (b1:List UInt8) (K:Bool->Prop):Prop:=
 K (a0==b1)
noncomputable def Zcjx:Tab:=⟨[],[]⟩
abbrev Zbnq (x:PkTs Zrl) (K:PkTs Zql->Prop):Prop:=Zpz x.1 x.2.1 (fun r0=>K (r0,()))
theorem Zcvl:FnQ Tryz.prog Zoc Zrl Zql Zbnq:=(Zt Zcfl (tab:=Zcjx) ⟨trivial,trivial⟩ rfl).of_eq (by kernel_rfl)
noncomputable def Zbgf:Ct:=ctRd Zrl Zql Zbnq
theorem Zblq:Zw Tryz.prog Zoc Zbgf:=Zde Zcvl
def Zcfw:PPlan:=⟨[(1,[0,1,2,3,4,5,6,7,8,9,10,11,12,14,15,13,16,17,18],[18])],[],[],[],[],[]⟩
theorem Zckd:Known Tryz.prog Zqh Tryz.f42 Zcfw.plan (Zg Tryz.f42):=by refine ⟨Tryz.func42,?_,?_,?_,?_,?_⟩<;>kernel_rfl
abbrev Zps:List Pk:=[Pk.agg [Kd.int .u32,Kd.int .i64]]
abbrev Zpk:List Pk:=[Pk.bool]
def Zob (p0:UInt32×Int) (K:Bool->Prop):Prop:=
 IfB (decide ((p0.2:Int)≥0))
 (IfB (decide ((p0.2:Int) <= 32))
 ((WfPs Zvw ((p0.1.toNat:Int),p0.2,())->
 Zzu (p0.1.toNat:Int) p0.2 (fun x16=>
 WfPs Zbao (x16,())->
 K ((x16:Int)==(p0.1.toNat:Int)))))
 (K false))
 (K false)
noncomputable def Zcmk:Tab:=⟨[(Zjf,Zbmn)],[]⟩
abbrev Zbup (x:PkTs Zps) (K:PkTs Zpk->Prop):Prop:=Zob x.1 (fun r0=>K (r0,()))
theorem Zcem:FnQ Tryz.prog Zqh Zps Zpk Zbup:=(Zt Zckd (tab:=Zcmk) ⟨⟨Zcff,trivial⟩,trivial⟩ rfl).of_eq (by kernel_rfl)
noncomputable def Zbdd:Ct:=ctRd Zps Zpk Zbup
theorem Zbou:Zw Tryz.prog Zqh Zbdd:=Zde Zcem
def Zbpv:PLoop:=⟨[(4,PK.row Zec [Kd.int .u8]),(10,PK.int .i64)],[8,9],[]⟩
def Zbsv:PLoop:=⟨[(4,PK.row Zec [Kd.int .u8]),(26,PK.int .i64)],[6,8,9,10,25],[]⟩
def Zcme:PPlan:=⟨[],[(3,Zbpv),(9,Zbsv)],[],[],[],[]⟩
theorem Zbzu:Known Tryz.prog Zwz Tryz.f38 Zcme.plan (Zg Tryz.f38):=by refine ⟨Tryz.func38,?_,?_,?_,?_,?_⟩<;>kernel_rfl
abbrev Zqq:List Pk:=[Pk.lst [Kd.int .u32,Kd.int .i64]]
abbrev Zom:List Pk:=[Pk.own Zec [Kd.int .u8],Pk.bool]
def Zbch (x12:UInt32×Int) (l0:List (UInt32×Int)) (x10:Int) (x25:Int) (next3:(List UInt8×Int×Unit)->Prop) (b4_1:List UInt8) (x26:Int) (next9:(List UInt8×Int×Unit)->Prop) (K:List UInt8->Bool->Prop):Prop:=
 IfB (decide ((x26:Int)<x25))
 ((0:Int) <= (IntKind.wrap .i64 (24 - (IntKind.wrap .i64 (8*x26))))∧
 b4_1.length+([(ofI .u8 (IntKind.wrap .u8 (Int.fdiv (x12.1.toNat:Int) (2^(min ((IntKind.wrap .i64 (24 - (IntKind.wrap .i64 (8*x26)))):Int).toNat (IntKind.bits .u32))))))]:List UInt8).length <= 140737488355232∧
 next9 ((b4_1++([(ofI .u8 (IntKind.wrap .u8 (Int.fdiv (x12.1.toNat:Int) (2^(min ((IntKind.wrap .i64 (24 - (IntKind.wrap .i64 (8*x26)))):Int).toNat (IntKind.bits .u32))))))]:List UInt8)),(IntKind.wrap .i64 (x26+1)),()))
 (next3 (b4_1,(IntKind.wrap .i64 (x10+1)),()))
def Zbdj (l0:List (UInt32×Int)) (b4:List UInt8) (x10:Int) (next3:(List UInt8×Int×Unit)->Prop) (K:List UInt8->Bool->Prop):Prop:=
 IfB (decide ((x10:Int)<(l0.length:Int)))
 ((0:Int) <= x10∧AtN l0 x10.toNat fun x12=>
 WfT Zrr x12->
 (WfPs Zps ((((ofI .u32 (x12.1.toNat:Int)),x12.2):UInt32×Int),())->
 Zob (((ofI .u32 (x12.1.toNat:Int)),x12.2):UInt32×Int) (fun x15=>
 WfPs Zpk (x15,())->
 IfB (!x15)
 (K ([]:List UInt8) false)
 (b4.length+([(ofI .u8 (IntKind.wrap .u8 x12.2))]:List UInt8).length <= 140737488355232∧
 (WfPs Zbad (x12.2,())->
 Zzr x12.2 (fun x25=>
 WfPs Zbae (x25,())->
 Zk (List UInt8×Int×Unit) ((b4++([(ofI .u8 (IntKind.wrap .u8 x12.2))]:List UInt8)),(0:Int),()) fun y next=>
 WfY Zbsv.kinds y->
 Zbch x12 l0 x10 x25 next3 y.1 y.2.1 next K))))))
 (K b4 true)
def Zqw (l0:List (UInt32×Int)) (K:List UInt8->Bool->Prop):Prop:=
 Zk (List UInt8×Int×Unit) (([]:List UInt8),(0:Int),()) fun y next=>
 WfY Zbpv.kinds y->
 Zbdj l0 y.1 y.2.1 next K
noncomputable def Zceq:Tab:=⟨[(Zqh,Zbdd),(Zjo,Zbnp)],[]⟩
abbrev Zbvj (x:PkTs Zqq) (K:PkTs Zom->Prop):Prop:=Zqw x.1 (fun r0 r1=>K (r0,r1,()))
theorem Zctk:FnQ Tryz.prog Zwz Zqq Zom Zbvj:=(Zt Zbzu (tab:=Zceq) ⟨⟨Zbou,Zcgf,trivial⟩,trivial⟩ rfl).of_eq (by kernel_rfl)
noncomputable def Zbqb:Ct:=Zcy Zqq Zom Zbvj
theorem Zcjp:Zw Tryz.prog Zwz Zbqb:=Zdj Zctk
def Zcqo:PPlan:=⟨[],[],[25],[],[],[]⟩
theorem Zcbo:Known Tryz.prog Zwf Tryz.f66 Zcqo.plan (Zg Tryz.f66):=by refine ⟨Tryz.func66,?_,?_,?_,?_,?_⟩<;>kernel_rfl
abbrev Zve:List Pk:=[Pk.nil,Pk.int .i64]
abbrev Zts:List Pk:=[Pk.own Zec [Kd.int .u8]]
def Zbal (n1:Int) (K:List UInt8->Prop):Prop:=
 IfB (decide ((n1:Int)<0))
 (False)
 (IfB (decide (((IntKind.wrap .i64 (n1 - (IntKind.wrap .i64 (0 - 0)))):Int)>0))
 ((0:Int) <= 0∧0 <= (0:Int)∧
 (0:Int)<(IntKind.wrap .i64 (n1 - (IntKind.wrap .i64 (0 - 0))))∧(IntKind.wrap .i64 (n1 - (IntKind.wrap .i64 (0 - 0)))) <= 1000000000∧
 (0:Int) <= 0∧0 <= ((List.replicate (IntKind.wrap .i64 (n1 - (IntKind.wrap .i64 (0 - 0)))).toNat ((ofI .u8 0):UInt8)).length:Int)∧
 K ((List.replicate (IntKind.wrap .i64 (n1 - (IntKind.wrap .i64 (0 - 0)))).toNat ((ofI .u8 0):UInt8)).take 0))
 (K ([]:List UInt8)))
noncomputable def Zcgz:Tab:=⟨[],[]⟩
abbrev Zbug (x:PkTs Zve) (K:PkTs Zts->Prop):Prop:=Zbal x.2.1 (fun r0=>K (r0,()))
theorem Zcnk:FnQ Tryz.prog Zwf Zve Zts Zbug:=(Zt Zcbo (tab:=Zcgz) ⟨trivial,trivial⟩ rfl).of_eq (by kernel_rfl)
noncomputable def Zbjg:Ct:=Zcy Zve Zts Zbug
theorem Zcht:Zw Tryz.prog Zwf Zbjg:=Zdj Zcnk
def Zbkp:PLoop:=⟨[(3,PK.int .i64),(11,PK.int .i64)],[0,9,10],[]⟩
def Zbjl:PLoop:=⟨[(6,PK.row Zec [Kd.int .u8]),(27,PK.int .i64)],[25,26],[]⟩
def Zbyz:PPlan:=⟨[],[(3,Zbkp),(11,Zbjl)],[],[],[],[]⟩
theorem Zcfr:Known Tryz.prog Zoq Tryz.f40 Zbyz.plan (Zg Tryz.f40):=by refine ⟨Tryz.func40,?_,?_,?_,?_,?_⟩<;>kernel_rfl
abbrev Zsq:List Pk:=[Pk.lst [Kd.lst [Kd.int .u8]]]
abbrev Zqk:List Pk:=[Pk.own Zec [Kd.int .u8]]
def Zbif (slices0:List (List UInt8)) (newslice6:List UInt8) (x27:Int) (next11:(List UInt8×Int×Unit)->Prop) (K:List UInt8->Prop):Prop:=
 IfB (decide ((x27:Int)<(slices0.length:Int)))
 ((0:Int) <= x27∧AtN slices0 x27.toNat fun x29=>
 WfT Zbld x29->
 newslice6.length+x29.length <= 140737488355232∧
 next11 ((newslice6++x29),(IntKind.wrap .i64 (x27+1)),()))
 (K newslice6)
def Zbfu (slices0:List (List UInt8)) (size3:Int) (x11:Int) (next3:(Int×Int×Unit)->Prop) (K:List UInt8->Prop):Prop:=
 IfB (decide ((x11:Int)<(slices0.length:Int)))
 ((0:Int) <= x11∧AtN slices0 x11.toNat fun x13=>
 WfT Zbld x13->
 IfB (decide (((IntKind.wrap .i64 (size3+(x13.length:Int))):Int)<0))
 (False)
 (next3 ((IntKind.wrap .i64 (size3+(x13.length:Int))),(IntKind.wrap .i64 (x11+1)),())))
 ((WfPs Zve ((),size3,())->
 Zbal size3 (fun x24=>
 WfPs Zts (x24,())->
 Zk (List UInt8×Int×Unit) (x24,(0:Int),()) fun y next=>
 WfY Zbjl.kinds y->
 Zbif slices0 y.1 y.2.1 next K)))
def Zrm (slices0:List (List UInt8)) (K:List UInt8->Prop):Prop:=
 Zk (Int×Int×Unit) ((0:Int),(0:Int),()) fun y next=>
 WfY Zbkp.kinds y->
 Zbfu slices0 y.1 y.2.1 next K
noncomputable def Zcvq:Tab:=⟨[(Zwf,Zbjg)],[]⟩
abbrev Zbnb (x:PkTs Zsq) (K:PkTs Zqk->Prop):Prop:=Zrm x.1 (fun r0=>K (r0,()))
theorem Zcot:FnQ Tryz.prog Zoq Zsq Zqk Zbnb:=(Zt Zcfr (tab:=Zcvq) ⟨⟨Zcht,trivial⟩,trivial⟩ rfl).of_eq (by kernel_rfl)
noncomputable def Zbgv:Ct:=Zcy Zsq Zqk Zbnb
theorem Zbpw:Zw Tryz.prog Zoq Zbgv:=Zdj Zcot
theorem Zcet:Known Tryz.prog Zzk Tryz.f41 Zes.plan (Zg Tryz.f41):=by refine ⟨Tryz.func41,?_,?_,?_,?_,?_⟩<;>kernel_rfl
abbrev Zso:List Pk:=[Pk.lst [Kd.int .u8]]
abbrev Zog:List Pk:=[Pk.own Zec [Kd.int .u8]]
def Zpa (b0:List UInt8) (K:List UInt8->Prop):Prop:=
 (0:Int) <= 8∧
 (WfPs Zsq (([([(ofI .u8 (IntKind.wrap .u8 (Int.fdiv (b0.length:Int) 256))),(ofI .u8 (IntKind.wrap .u8 (b0.length:Int)))]:List UInt8),b0]:List (List UInt8)),())->
 Zrm ([([(ofI .u8 (IntKind.wrap .u8 (Int.fdiv (b0.length:Int) 256))),(ofI .u8 (IntKind.wrap .u8 (b0.length:Int)))]:List UInt8),b0]:List (List UInt8)) (fun x13=>
 WfPs Zqk (x13,())->
 K x13))
noncomputable def Zbyd:Tab:=⟨[(Zoq,Zbgv)],[]⟩
abbrev Zbsp (x:PkTs Zso) (K:PkTs Zog->Prop):Prop:=Zpa x.1 (fun r0=>K (r0,()))
theorem Zcoo:FnQ Tryz.prog Zzk Zso Zog Zbsp:=(Zt Zcet (tab:=Zbyd) ⟨⟨Zbpw,trivial⟩,trivial⟩ rfl).of_eq (by kernel_rfl)
noncomputable def Zbyc:Ct:=Zcy Zso Zog Zbsp
theorem Zcad:Zw Tryz.prog Zzk Zbyc:=Zdj Zcoo
theorem Zchf:Known Tryz.prog Zuf Tryz.f20 Zes.plan (Zg Tryz.f20):=by refine ⟨Tryz.func20,?_,?_,?_,?_,?_⟩<;>kernel_rfl
abbrev Zwh:List Pk:=[Pk.agg [Kd.lst [Kd.int .u32,Kd.int .i64],Kd.lst [Kd.int .u32,Kd.int .i64],Kd.int .i64,Kd.lst [Kd.bool,Kd.lst [Kd.int .u32]],Kd.int .u32,Kd.bool,Kd.int .u32,Kd.bool,Kd.int .u32,Kd.bool,Kd.bool,Kd.int .u32,Kd.int .u32,Kd.lst [Kd.int .u32],Kd.lst [Kd.int .i64,Kd.lst [Kd.int .u8]],Kd.int .i64],Pk.bool]
abbrev Ztd:List Pk:=[Pk.own Zec [Kd.int .u8],Pk.int .i64]
def Zuh (x16r0:List UInt8) (x22r0:List UInt8) (j2:List UInt8) (K:List UInt8->Int->Prop):Prop:=
 IfB (decide (((IntKind.wrap .i64 ((IntKind.wrap .i64 ((IntKind.wrap .i64 ((x16r0.length:Int)+(j2.length:Int)))+(x22r0.length:Int)))+4)):Int)>4077))
 (K ([]:List UInt8) 3)
 ((WfPs Zso (x16r0,())->
 Zpa x16r0 (fun x57=>
 WfPs Zog (x57,())->
 (WfPs Zso (j2,())->
 Zpa j2 (fun x59=>
 WfPs Zog (x59,())->
 (WfPs Zsq (([x57,x59,x22r0]:List (List UInt8)),())->
 Zrm ([x57,x59,x22r0]:List (List UInt8)) (fun x62=>
 WfPs Zqk (x62,())->
 K x62 0)))))))
def Zxg (four1:Bool) (u0:List (UInt32×Int)×List (UInt32×Int)×TyL1) (x16r0:List UInt8) (x22r0:List UInt8) (j19:Bool) (K:List UInt8->Int->Prop):Prop:=
 IfB j19
 (K ([]:List UInt8) 2)
 (IfB (decide (((u0.2.1.length:Int):Int)>0))
 ((WfPs Zbfp (((u0.2.2.1,u0.2.2.2.1,(ofI .u32 (u0.2.2.2.2.1.toNat:Int)),u0.2.2.2.2.2.1,(ofI .u32 (u0.2.2.2.2.2.2.1.toNat:Int)),u0.2.2.2.2.2.2.2.1,(ofI .u32 (u0.2.2.2.2.2.2.2.2.1.toNat:Int)),u0.2.2.2.2.2.2.2.2.2.1,u0.2.2.2.2.2.2.2.2.2.2.1,(ofI .u32 (u0.2.2.2.2.2.2.2.2.2.2.2.1.toNat:Int)),(ofI .u32 (u0.2.2.2.2.2.2.2.2.2.2.2.2.1.toNat:Int)),u0.2.2.2.2.2.2.2.2.2.2.2.2.2.1,u0.2.2.2.2.2.2.2.2.2.2.2.2.2.2.1):TyL2),four1,())->
 Zbbs ((u0.2.2.1,u0.2.2.2.1,(ofI .u32 (u0.2.2.2.2.1.toNat:Int)),u0.2.2.2.2.2.1,(ofI .u32 (u0.2.2.2.2.2.2.1.toNat:Int)),u0.2.2.2.2.2.2.2.1,(ofI .u32 (u0.2.2.2.2.2.2.2.2.1.toNat:Int)),u0.2.2.2.2.2.2.2.2.2.1,u0.2.2.2.2.2.2.2.2.2.2.1,(ofI .u32 (u0.2.2.2.2.2.2.2.2.2.2.2.1.toNat:Int)),(ofI .u32 (u0.2.2.2.2.2.2.2.2.2.2.2.2.1.toNat:Int)),u0.2.2.2.2.2.2.2.2.2.2.2.2.2.1,u0.2.2.2.2.2.2.2.2.2.2.2.2.2.2.1):TyL2) four1 (fun x39r0 x39r1=>
 WfPs Zbbg (x39r0,x39r1,())->
 IfB ((x39r1:Int) !=0)
 (K ([]:List UInt8) x39r1)
 (Zuh x16r0 x22r0 x39r0 K))))
 (Zuh x16r0 x22r0 ([]:List UInt8) K))
def Zvv (u0:List (UInt32×Int)×List (UInt32×Int)×TyL1) (four1:Bool) (K:List UInt8->Int->Prop):Prop:=
 (WfPs Zqq (u0.1,())->
 Zqw u0.1 (fun x16r0 x16r1=>
 WfPs Zom (x16r0,x16r1,())->
 (WfPs Zqq (u0.2.1,())->
 Zqw u0.2.1 (fun x22r0 x22r1=>
 WfPs Zom (x22r0,x22r1,())->
 IfB (!x16r1)
 (Zxg four1 u0 x16r0 x22r0 true K)
 (Zxg four1 u0 x16r0 x22r0 (!x22r1) K)))))
noncomputable def Zcvo:Tab:=⟨[(Zwz,Zbqb),(Zbho,Zbjr),(Zoq,Zbgv),(Zzk,Zbyc)],[]⟩
abbrev Zbjo (x:PkTs Zwh) (K:PkTs Ztd->Prop):Prop:=Zvv x.1 x.2.1 (fun r0 r1=>K (r0,r1,()))
theorem Zcbv:FnQ Tryz.prog Zuf Zwh Ztd Zbjo:=(Zt Zchf (tab:=Zcvo) ⟨⟨Zcjp,Zcjg,Zbpw,Zcad,trivial⟩,trivial⟩ rfl).of_eq (by kernel_rfl)
noncomputable def Zbjx:Ct:=Zcy Zwh Ztd Zbjo
theorem Zchm:Zw Tryz.prog Zuf Zbjx:=Zdj Zcbv
def Zbjv:PLoop:=⟨[(3,PK.row Zcal [Kd.str]),(8,PK.int .i64)],[1],[]⟩
def Zcuv:PPlan:=⟨[(9,[0,3,4,1,2,5,6,7],[28])],[(5,Zbjv)],[],[],[],[]⟩
theorem Zcnp:Known Tryz.prog Zym Tryz.f21 Zcuv.plan (Zg Tryz.f21):=by refine ⟨Tryz.func21,?_,?_,?_,?_,?_⟩<;>kernel_rfl
abbrev Zwu:List Pk:=[Pk.agg [Kd.int .u32,Kd.int .i64]]
abbrev Zyo:List Pk:=[Pk.str]
def Zbff (p0:UInt32×Int) (l3:List (List UInt8)) (x8:Int) (next5:(List (List UInt8)×Int×Unit)->Prop) (K:List UInt8->Prop):Prop:=
 IfB (decide ((x8:Int)<4))
 ((0:Int) <= (IntKind.wrap .i64 (24 - (IntKind.wrap .i64 (8*x8))))∧
 (WfPs Zxv ((IntKind.wrap .i64 (Zft .u32 (Int.fdiv (p0.1.toNat:Int) (2^(min ((IntKind.wrap .i64 (24 - (IntKind.wrap .i64 (8*x8)))):Int).toNat (IntKind.bits .u32)))) 255)),())->
 Zmj (IntKind.wrap .i64 (Zft .u32 (Int.fdiv (p0.1.toNat:Int) (2^(min ((IntKind.wrap .i64 (24 - (IntKind.wrap .i64 (8*x8)))):Int).toNat (IntKind.bits .u32)))) 255)) (fun x20=>
 WfPs Zxu (x20,())->
 l3.length+([x20]:List (List UInt8)).length <= 8796093022112∧
 next5 ((l3++([x20]:List (List UInt8))),(IntKind.wrap .i64 (x8+1)),()))))
 ((WfPs Zbbn (l3,([46]:List UInt8),())->
 Zyk l3 ([46]:List UInt8) (fun x25=>
 WfPs Zbce (x25,())->
 x25.length+([47]:List UInt8).length <= Zj∧
 (WfPs Zxv (p0.2,())->
 Zmj p0.2 (fun x29=>
 WfPs Zxu (x29,())->
 (x25++([47]:List UInt8)).length+x29.length <= Zj∧
 K ((x25++([47]:List UInt8))++x29))))))
def Zuo (p0:UInt32×Int) (K:List UInt8->Prop):Prop:=
 (WfPs Zps ((((ofI .u32 (p0.1.toNat:Int)),p0.2):UInt32×Int),())->
 Zob (((ofI .u32 (p0.1.toNat:Int)),p0.2):UInt32×Int) (fun x6=>
 WfPs Zpk (x6,())->
 IfB (!x6)
 (K ([]:List UInt8))
 (Zk (List (List UInt8)×Int×Unit) (([]:List (List UInt8)),(0:Int),()) fun y next=>
 WfY Zbjv.kinds y->
 Zbff p0 y.1 y.2.1 next K)))
noncomputable def Zbzc:Tab:=⟨[(Zqh,Zbdd),(Zbhd,Zbsz),(Zus,Zbra)],[]⟩
abbrev Zbil (x:PkTs Zwu) (K:PkTs Zyo->Prop):Prop:=Zuo x.1 (fun r0=>K (r0,()))
theorem Zcex:FnQ Tryz.prog Zym Zwu Zyo Zbil:=(Zt Zcnp (tab:=Zbzc) ⟨⟨Zbou,Zccg,Zchu,trivial⟩,trivial⟩ rfl).of_eq (by kernel_rfl)
noncomputable def Zbim:Ct:=ctRd Zwu Zyo Zbil
theorem Zclp:Zw Tryz.prog Zym Zbim:=Zde Zcex
theorem Zcfj:Known Tryz.prog Zsy Tryz.f9 Zes.plan (Zg Tryz.f9):=by refine ⟨Tryz.func9,?_,?_,?_,?_,?_⟩<;>kernel_rfl
abbrev Zuz:List Pk:=[]
abbrev Zwd:List Pk:=[Pk.bool]
def Zsx (K:Bool->Prop):Prop:=
 (WfPs Zwh (((([((ofI .u32 167772160),8)]:List (UInt32×Int)),([]:List (UInt32×Int)),0,([]:List (Bool×List UInt32)),(ofI .u32 0),false,(ofI .u32 0),false,(ofI .u32 0),false,false,(ofI .u32 0),(ofI .u32 0),([]:List UInt32),([]:List (Int×List UInt8)),0):List (UInt32×Int)×List (UInt32×Int)×TyL1),false,())->
 Zvv ((([((ofI .u32 167772160),8)]:List (UInt32×Int)),([]:List (UInt32×Int)),0,([]:List (Bool×List UInt32)),(ofI .u32 0),false,(ofI .u32 0),false,(ofI .u32 0),false,false,(ofI .u32 0),(ofI .u32 0),([]:List UInt32),([]:List (Int×List UInt8)),0):List (UInt32×Int)×List (UInt32×Int)×TyL1) false (fun x10r0 x10r1=>
 WfPs Ztd (x10r0,x10r1,())->
 (WfPs Zpe (x10r0,false,())->
 Zoe x10r0 false (fun x15r0 x15r1 x15r2=>
 WfPs Zon (x15r0,x15r1,x15r2,())->
 IfB ((x10r1:Int)==0)
 ((WfPs Zrl (x10r0,([(ofI .u8 0),(ofI .u8 2),(ofI .u8 8),(ofI .u8 10),(ofI .u8 0),(ofI .u8 0)]:List UInt8),())->
 Zpz x10r0 ([(ofI .u8 0),(ofI .u8 2),(ofI .u8 8),(ofI .u8 10),(ofI .u8 0),(ofI .u8 0)]:List UInt8) (fun x24=>
 WfPs Zql (x24,())->
 IfB x24
 (IfB x15r2
 (IfB (((x15r0.1.length:Int):Int)==1)
 ((0:Int) <= 0∧AtN x15r0.1 0 fun x38=>
 WfT Zrr x38->
 IfB ((((x38.1.toNat:Int):Int)==167772160)&&(((x38.2:Int)==8)&&true))
 ((0:Int) <= 0∧AtN x15r0.1 0 fun x46=>
 WfT Zrr x46->
 (WfPs Zwu ((((ofI .u32 (x46.1.toNat:Int)),x46.2):UInt32×Int),())->
 Zuo (((ofI .u32 (x46.1.toNat:Int)),x46.2):UInt32×Int) (fun x48=>
 WfPs Zyo (x48,())->
 K (x48==([49,48,46,48,46,48,46,48,47,56]:List UInt8)))))
 (K false))
 (K false))
 (K false))
 (K false))))
 (K false)))))
noncomputable def Zcnb:Tab:=⟨[(Zra,Zbex),(Zoc,Zbgf),(Zuf,Zbjx),(Zym,Zbim)],[]⟩
abbrev Zbvu (x:PkTs Zuz) (K:PkTs Zwd->Prop):Prop:=Zsx (fun r0=>K (r0,()))
theorem Zcup:FnQ Tryz.prog Zsy Zuz Zwd Zbvu:=(Zt Zcfj (tab:=Zcnb) ⟨⟨Zbko,Zblq,Zchm,Zclp,trivial⟩,trivial⟩ rfl).of_eq (by kernel_rfl)
noncomputable def Zbxo:Ct:=ctRd Zuz Zwd Zbvu
theorem Zccf:Zw Tryz.prog Zsy Zbxo:=Zde Zcup
theorem Zbzm:Known Tryz.prog Zbkh Tryz.f3 Zes.plan (Zg Tryz.f3):=by refine ⟨Tryz.func3,?_,?_,?_,?_,?_⟩<;>kernel_rfl
abbrev Zbhi:List Pk:=[Pk.lst [Kd.int .u8],Pk.bool]
abbrev Zbpk:List Pk:=[Pk.bool]
def Zbeu (b0:List UInt8) (four1:Bool) (K:Bool->Prop):Prop:=
 (0:Int) <= (min (b0.length:Int) 1500)∧(min (b0.length:Int) 1500) <= (b0.length:Int)∧
 (WfPs Zvp ((b0.take ((min (b0.length:Int) 1500).toNat)),())->
 Zbxu (b0.take ((min (b0.length:Int) 1500).toNat)) (fun x18=>
 WfPs Zxx (x18,())->
 (WfPs Zpe (x18,four1,())->
 Zoe x18 four1 (fun x20r0 x20r1 x20r2=>
 WfPs Zon (x20r0,x20r1,x20r2,())->
 (WfPs Zss ((b0.take ((min (b0.length:Int) 1500).toNat)),four1,())->
 Zwj (b0.take ((min (b0.length:Int) 1500).toNat)) four1 (fun x27r0 x27r1 x27r2=>
 WfPs Zzy (x27r0,x27r1,x27r2,())->
 (WfPs Zwy (((x20r0.1,x20r0.2.1,x20r0.2.2.1,x20r0.2.2.2.1,(ofI .u32 (x20r0.2.2.2.2.1.toNat:Int)),x20r0.2.2.2.2.2.1,(ofI .u32 (x20r0.2.2.2.2.2.2.1.toNat:Int)),x20r0.2.2.2.2.2.2.2.1,(ofI .u32 (x20r0.2.2.2.2.2.2.2.2.1.toNat:Int)),x20r0.2.2.2.2.2.2.2.2.2.1,x20r0.2.2.2.2.2.2.2.2.2.2.1,(ofI .u32 (x20r0.2.2.2.2.2.2.2.2.2.2.2.1.toNat:Int)),(ofI .u32 (x20r0.2.2.2.2.2.2.2.2.2.2.2.2.1.toNat:Int)),x20r0.2.2.2.2.2.2.2.2.2.2.2.2.2.1,x20r0.2.2.2.2.2.2.2.2.2.2.2.2.2.2.1,x20r0.2.2.2.2.2.2.2.2.2.2.2.2.2.2.2):List (UInt32×Int)×List (UInt32×Int)×TyL1),((x27r0.1,x27r0.2.1,x27r0.2.2.1,x27r0.2.2.2.1,(ofI .u32 (x27r0.2.2.2.2.1.toNat:Int)),x27r0.2.2.2.2.2.1,(ofI .u32 (x27r0.2.2.2.2.2.2.1.toNat:Int)),x27r0.2.2.2.2.2.2.2.1,(ofI .u32 (x27r0.2.2.2.2.2.2.2.2.1.toNat:Int)),x27r0.2.2.2.2.2.2.2.2.2.1,x27r0.2.2.2.2.2.2.2.2.2.2.1,(ofI .u32 (x27r0.2.2.2.2.2.2.2.2.2.2.2.1.toNat:Int)),(ofI .u32 (x27r0.2.2.2.2.2.2.2.2.2.2.2.2.1.toNat:Int)),x27r0.2.2.2.2.2.2.2.2.2.2.2.2.2.1,x27r0.2.2.2.2.2.2.2.2.2.2.2.2.2.2.1,x27r0.2.2.2.2.2.2.2.2.2.2.2.2.2.2.2):List (UInt32×Int)×List (UInt32×Int)×TyL1),())->
 Zuw ((x20r0.1,x20r0.2.1,x20r0.2.2.1,x20r0.2.2.2.1,(ofI .u32 (x20r0.2.2.2.2.1.toNat:Int)),x20r0.2.2.2.2.2.1,(ofI .u32 (x20r0.2.2.2.2.2.2.1.toNat:Int)),x20r0.2.2.2.2.2.2.2.1,(ofI .u32 (x20r0.2.2.2.2.2.2.2.2.1.toNat:Int)),x20r0.2.2.2.2.2.2.2.2.2.1,x20r0.2.2.2.2.2.2.2.2.2.2.1,(ofI .u32 (x20r0.2.2.2.2.2.2.2.2.2.2.2.1.toNat:Int)),(ofI .u32 (x20r0.2.2.2.2.2.2.2.2.2.2.2.2.1.toNat:Int)),x20r0.2.2.2.2.2.2.2.2.2.2.2.2.2.1,x20r0.2.2.2.2.2.2.2.2.2.2.2.2.2.2.1,x20r0.2.2.2.2.2.2.2.2.2.2.2.2.2.2.2):List (UInt32×Int)×List (UInt32×Int)×TyL1) ((x27r0.1,x27r0.2.1,x27r0.2.2.1,x27r0.2.2.2.1,(ofI .u32 (x27r0.2.2.2.2.1.toNat:Int)),x27r0.2.2.2.2.2.1,(ofI .u32 (x27r0.2.2.2.2.2.2.1.toNat:Int)),x27r0.2.2.2.2.2.2.2.1,(ofI .u32 (x27r0.2.2.2.2.2.2.2.2.1.toNat:Int)),x27r0.2.2.2.2.2.2.2.2.2.1,x27r0.2.2.2.2.2.2.2.2.2.2.1,(ofI .u32 (x27r0.2.2.2.2.2.2.2.2.2.2.2.1.toNat:Int)),(ofI .u32 (x27r0.2.2.2.2.2.2.2.2.2.2.2.2.1.toNat:Int)),x27r0.2.2.2.2.2.2.2.2.2.2.2.2.2.1,x27r0.2.2.2.2.2.2.2.2.2.2.2.2.2.2.1,x27r0.2.2.2.2.2.2.2.2.2.2.2.2.2.2.2):List (UInt32×Int)×List (UInt32×Int)×TyL1) (fun x33=>
 WfPs Zzz (x33,())->
 IfB x33
 (IfB ((x20r1.1:Int)==x27r1.1)
 (IfB ((x20r1.2.1:Int)==x27r1.2.1)
 ((WfPs Zrl (x20r1.2.2,x27r1.2.2,())->
 Zpz x20r1.2.2 x27r1.2.2 (fun x53=>
 WfPs Zql (x53,())->
 IfB x53
 (IfB (x20r2==x27r2)
 ((WfPs Zuz (())->
 Zsx (fun x61=>
 WfPs Zwd (x61,())->
 K x61)))
 (K false))
 (K false))))
 (K false))
 (K false))
 (K false)))))))))
noncomputable def Zceh:Tab:=⟨[(Zra,Zbex),(Zwr,Zbun),(Zzg,Zboc),(Zxb,Zbmc),(Zoc,Zbgf),(Zsy,Zbxo)],[]⟩
abbrev Zcck (x:PkTs Zbhi) (K:PkTs Zbpk->Prop):Prop:=Zbeu x.1 x.2.1 (fun r0=>K (r0,()))
theorem Zcpt:FnQ Tryz.prog Zbkh Zbhi Zbpk Zcck:=(Zt Zbzm (tab:=Zceh) ⟨⟨Zbko,Zcfb,Zcvb,Zcpm,Zblq,Zccf,trivial⟩,trivial⟩ rfl).of_eq (by kernel_rfl)
end Go.Proofs.YthdffaojeghaeaaGreatDoor
end
section
namespace Go.Proofs.YthdffaojeghaeaaGreatDoor
open Go.Sh
theorem Zcol (a n:Nat) (K:Int->Prop) (ha:a<4294967296) (hn:n <= 32) (hk:K ((a - a%Zdk n:Nat):Int)):Zzu a n K:=by
  unfold Zzu;have e1:IntKind.wrap .i64 (32 - (n:Int))=((32 - n:Nat):Int):=by rw [Ze (by omega) (by omega)];omega
  rw [e1];refine ⟨by omega,?_⟩
  have hp:2^(32 - n) <= 2^32:=Nat.pow_le_pow_right (by decide) (by omega)
  have h0:0<2^(32 - n):=Nat.two_pow_pos _;have e32:(2:Nat)^32=4294967296:=rfl;have e2:(min ((32 - n:Nat):Int).toNat (IntKind.bits .u64))=32 - n:=by rw [Int.toNat_natCast];have:IntKind.bits .u64=64:=rfl;rw [this];omega
  have e3:(1*(2^(32 - n)):Int)=((2^(32 - n):Nat):Int):=by rw [Int.one_mul];norm_cast
  rw [e2,e3,Zgy _ (by omega),show (((2^(32 - n):Nat):Int) - 1)=((2^(32 - n) - 1:Nat):Int) by omega,Zgy _ (by omega),wu32 (by omega),Zbjc a ha _ (by omega)]
  exact hk
def right (a:Nat) (n:Int):Bool:=decide (0 <= n)&&(decide (n <= 32)&&(a%Zdk n.toNat==0))
theorem Zbqu {a:Nat} {n:Int}:right a n=true↔0 <= n∧n <= 32∧a%Zdk n.toNat=0:=by simp [right]
theorem Zbke (a:UInt32) (n:Int) (K:Bool->Prop) (hk:K (right a.toNat n)):Zob (a,n) K:=by
  unfold Zob;have ha:=Zcui a;refine IfB.intro (fun h=>IfB.intro (fun h2=>?_) (fun h2=>of_eq hk ?_)) (fun h=>of_eq hk ?_)
  . have h0:0 <= n:=by simpa using h
    have h1:n <= 32:=by simpa using h2
    obtain ⟨m,rfl⟩:=Int.eq_ofNat_of_zero_le h0;intro _;refine Zcol a.toNat m _ ha (by omega) fun _=>of_eq hk ?_
    have hle:a.toNat%Zdk m <= a.toNat:=Nat.mod_le _ _;unfold right;rw [decide_eq_true h0,decide_eq_true h1,Bool.true_and,Bool.true_and,Int.toNat_natCast];by_cases e:a.toNat%Zdk m=0;rw [e];simp
    . have e1:(a.toNat%Zdk m==0)=false:=beq_eq_false_iff_ne.2 e;have e2:(((a.toNat - a.toNat%Zdk m:Nat):Int)==(a.toNat:Int))=false:=beq_eq_false_iff_ne.2 (by omega)
      rw [e1,e2]
  . unfold right;simp at h2;rw [decide_eq_false (show ¬n <= 32 by omega)];simp
  . unfold right;simp at h;rw [decide_eq_false (show ¬0 <= n by omega)];simp
theorem Zbxy (n:Int) (K:Int->Prop) (hn:n <= 32) (hk:K (Zdk n.toNat:Nat)):Zoo n K:=by
  unfold Zoo;refine Zk.up (32 - n.toNat) (fun i=>(((2^i:Nat):Int),((n.toNat+i:Nat):Int),())) (fun _=>True) (by simp) trivial (fun i hi _ next hx=>?_) (fun _ next=>?_)
  . intro _;dsimp only [Zbeo];have hp:2^(i+1) <= 2^32:=Nat.pow_le_pow_right (by decide) (by omega)
    have e32:(2:Nat)^32=4294967296:=rfl;refine ifT (decide_eq_true (by omega)) (of_eq (hx trivial) ?_)
    rw [show (2*((2^i:Nat):Int))=((2^(i+1):Nat):Int) by rw [Nat.pow_succ];omega,Zgy _ (by omega),show (((n.toNat+i:Nat):Int)+1)=((n.toNat+(i+1):Nat):Int) by omega,Zlw _ (by omega)]
  intro _;dsimp only [Zbeo];exact ifF (decide_eq_false (by omega)) hk
end Go.Proofs.YthdffaojeghaeaaGreatDoor
namespace Go.Proofs.YthdffaojeghaeaaGreatDoor
open Go.Sh
abbrev Pf:=UInt32×Int
def Zcz (p:Pf):Bool:=right p.1.toNat p.2
def octs (n:Int):Nat:=(n.toNat+7)/8
def Zmg (p:Pf):List UInt8:=ofI .u8 (IntKind.wrap .u8 p.2)::(be4 p.1.toNat).take (octs p.2)
def Zev (l:List Pf):List UInt8:=l.flatMap Zmg
theorem Zblz {p:Pf} (h:Zcz p=true):0 <= p.2∧p.2 <= 32:=by have:=Zbqu.1 h;exact ⟨this.1,this.2.1⟩
theorem Zcbj {p:Pf} (h:Zcz p=true):octs p.2 <= 4:=by have:=Zblz h;unfold octs;omega
theorem Zcqp (p:Pf):(Zmg p).length <= 5:=by unfold Zmg;rw [List.length_cons,List.length_take,Zbnw];omega
theorem Zyw: ∀l:List Pf,(Zev l).length <= 5*l.length
  | []=>by simp [Zev]
  | p::l=>by have h1:=Zyw l;have h2:=Zcqp p;have e:Zev (p::l)=Zmg p++Zev l:=rfl;rw [e,List.length_append,List.length_cons];omega
theorem Zcmy (l:List Pf) (p:Pf):Zev (l++[p])=Zev l++Zmg p:=by simp [Zev]
theorem Zcte (p:Pf) (K:Int->Prop) (hp:Zcz p=true) (h:K (octs p.2:Nat)):Zzr p.2 K:=by
  have:=Zblz hp;unfold Zzr;refine ⟨by decide,of_eq h ?_⟩
  rw [Ze (n:=p.2+8) (by omega) (by omega),Ze (n:=p.2+8 - 1) (by omega) (by omega),Int.tdiv_eq_ediv_of_nonneg (by omega),Ze (by omega) (by omega)]
  unfold octs;omega
theorem Zcmz (a i:Nat) (hi:i<4) (x:UInt8) (h:(be4 a)[i]? =some x):(be4 a).take (i+1)=(be4 a).take i++[x]:=by rw [List.take_add_one,h];rfl
theorem Zclr (a i:Nat) (hi:i<4):(be4 a)[i]? =some (UInt8.ofNat (a/2^(24 - 8*i))):=by
  match i,hi with
  | 0,_=>rfl
  | 1,_=>rfl
  | 2,_=>rfl
  | 3,_=>simp [be4]
theorem Zceb (a k:Nat):Int.fdiv (a:Int) (2^k)=((a/2^k:Nat):Int):=by
  rw [Int.fdiv_eq_ediv_of_nonneg _ (Int.le_of_lt (Int.pow_pos (by decide)))]
  norm_cast
theorem Zbxz (l:List Pf) (K:List UInt8->Bool->Prop) (hl:l.length <= 1000000000) (h:K (if l.all Zcz then Zev l else []) (l.all Zcz)):Zqw l K:=by
  unfold Zqw;refine Zk.over l (fun pre=>(Zev pre,(pre.length:Int),())) (fun pre=>pre.all Zcz=true) rfl rfl (fun pre p post hp hn hP next hx=>?_) (fun hP next _=>?_)
  . intro _;dsimp only [Zbdj];have hb:=Zyw pre;refine ifT (decide_eq_true (by omega)) ⟨by omega,AtN.of (Zcf hp) fun _=>?_⟩
    rw [Zfi];refine fun _=>Zbke p.1 p.2 _ fun _=>IfB.intro (fun h1=>?_) (fun h1=>?_)
    . have h1':Zcz p=false:=by simpa [Zcz] using h1
      have e:l.all Zcz=false:=by rw [hp];simp [h1']
      rw [e] at h;exact h
    . have h1':Zcz p=true:=by simpa [Zcz] using h1
      have ho:=Zcbj h1';refine ⟨by simp;omega,fun _=>Zcte p _ h1' fun _=>?_⟩
      refine Zk.up (octs p.2) (fun i=>(Zev pre++ofI .u8 (IntKind.wrap .u8 p.2)::(be4 p.1.toNat).take i,(i:Int),())) (fun _=>True) (by simp) trivial (fun i hi _ next' hy=>?_) (fun _ next'=>?_)
      . intro _;dsimp only [Zbch];have hw:IntKind.wrap .i64 (24 - IntKind.wrap .i64 (8*(i:Int)))=((24 - 8*i:Nat):Int):=by
          rw [Ze (n:=8*(i:Int)) (by omega) (by omega),Ze (by omega) (by omega)];omega
        have hm:(min ((24 - 8*i:Nat):Int).toNat (IntKind.bits .u32))=24 - 8*i:=by have:IntKind.bits .u32=32:=rfl;rw [Int.toNat_natCast,this];omega
        have ht:((be4 p.1.toNat).take i).length <= 4:=by rw [List.length_take,Zbnw];omega
        rw [hw,hm];refine ifT (decide_eq_true (by omega)) ⟨by omega,by simp;omega,of_eq (hy trivial) ?_⟩
        rw [Zceb,of8w,Ze (by omega) (by omega),Zcmz _ i (by omega) _ (Zclr _ i (by omega))]
        simp
      . intro _;dsimp only [Zbch];refine ifF (decide_eq_false (by omega)) (of_eq (hx ?_) ?_)
        simp [hP,h1']
        . rw [Zcmy,Ze (by omega) (by omega)]
          simp [Zmg]
  . dsimp only [Zbdj];refine ifF (decide_eq_false (by omega)) ?_
    rw [hP,if_pos rfl] at h;exact h
end Go.Proofs.YthdffaojeghaeaaGreatDoor
namespace Go.Proofs.YthdffaojeghaeaaGreatDoor
open Go.Sh
abbrev Upd:=List Pf×List Pf×Int×List Seg×UInt32×Bool×UInt32×Bool×UInt32×Bool×Bool×UInt32×UInt32×List UInt32×List Raw×Int
def Zio (u:Upd):Zo:=(u.2.2.1,u.2.2.2.1,u.2.2.2.2.1,u.2.2.2.2.2.1,u.2.2.2.2.2.2.1,u.2.2.2.2.2.2.2.1,u.2.2.2.2.2.2.2.2.1,u.2.2.2.2.2.2.2.2.2.1,u.2.2.2.2.2.2.2.2.2.2.1,u.2.2.2.2.2.2.2.2.2.2.2.1,u.2.2.2.2.2.2.2.2.2.2.2.2.1,u.2.2.2.2.2.2.2.2.2.2.2.2.2.1,u.2.2.2.2.2.2.2.2.2.2.2.2.2.2.1)
structure FitA (a:Zo):Prop where
  p1:a.path.length <= 9223372036854775807
  p2:cnt a.path <= 9223372036854775807
  p3: ∀s∈a.path,s.2.length <= 9223372036854775807
  o1:a.others.length <= 9223372036854775807
def Zrz (w a t:List UInt8):List UInt8×Int:=
  if 4073<w.length+a.length+t.length then ([],3) else (be2 w.length++w++(be2 a.length++a++t),0)
def updR (u:Upd) (four:Bool):List UInt8×Int:=
  if u.1.all Zcz&&u.2.1.all Zcz then
    if 0<u.2.1.length then (if Zcbp (Zio u) then Zrz (Zev u.1) (Zcgm four (Zio u)) (Zev u.2.1) else ([],2))
    else Zrz (Zev u.1) [] (Zev u.2.1)
  else ([],2)
theorem Zcka {x:Bool} (h:true= !x):x=false:=by cases x<;>simp_all
theorem Zccq {x:Bool} (h:false= !x):x=true:=by cases x<;>simp_all
theorem Zclh (n:Nat):([ofI .u8 (IntKind.wrap .u8 (Int.fdiv (n:Int) 256)),ofI .u8 (IntKind.wrap .u8 (n:Int))]:List UInt8)=be2 n:=by rw [Zcqh,of8w,of8w];rfl
theorem Zcgy (n:Int) (K:List UInt8->Prop) (h0:0 <= n) (hn:n <= 1000000000) (h:K []):Zbal n K:=by
  unfold Zbal;have e:IntKind.wrap .i64 (n - IntKind.wrap .i64 (0 - 0))=n:=by
    rw [Ze (n:=0 - 0) (by omega) (by omega)]
    exact Ze (by omega) (by omega) |>.trans (by omega)
  rw [e];refine ifF (decide_eq_false (by omega)) (IfB.intro (fun h1=>?_) (fun _=>h))
  have h1:0<n:=by simpa using h1
  exact ⟨by omega,by omega,h1,hn,by omega,by omega,by simpa using h⟩
theorem Zboj (l:List (List UInt8)) (K:List UInt8->Prop) (hl:l.length <= 1000000000) (hf:l.flatten.length <= 1000000000) (h:K l.flatten):Zrm l K:=by
  unfold Zrm;refine Zk.over l (fun pre=>((pre.flatten.length:Int),(pre.length:Int),())) (fun _=>True) rfl trivial (fun pre x post hp hn _ next hx=>?_) (fun _ next _=>?_)
  . intro _;dsimp only [Zbfu];have hs:=Zbwu (pre:=pre) (x:=x) (post:=post);rw [← hp] at hs;refine ifT (decide_eq_true (by omega)) ⟨by omega,AtN.of (Zcf hp) fun _=>?_⟩
    rw [Ze (n:=(pre.flatten.length:Int)+x.length) (by omega) (by omega)]
    refine ifF (decide_eq_false (by omega)) (of_eq (hx trivial) ?_)
    rw [Ze (by omega) (by omega)]
    simp
  . dsimp only [Zbfu];refine ifF (decide_eq_false (by omega)) fun _=>Zcgy _ _ (by omega) (by omega) fun _=>?_
    refine Zk.over l (fun pre=>(pre.flatten,(pre.length:Int),())) (fun _=>True) rfl trivial (fun pre x post hp hn _ next hx=>?_) (fun _ next _=>?_)
    . intro _;dsimp only [Zbif];have hs:=Zbwu (pre:=pre) (x:=x) (post:=post);rw [← hp] at hs;refine ifT (decide_eq_true (by omega)) ⟨by omega,AtN.of (Zcf hp) fun _=>⟨by omega,of_eq (hx trivial) ?_⟩⟩
      rw [Ze (by omega) (by omega)]
      simp
    dsimp only [Zbif];exact ifF (decide_eq_false (by omega)) h
theorem Zbqc (b:List UInt8) (K:List UInt8->Prop) (hl:b.length <= 100000000) (h:K (be2 b.length++b)):Zpa b K:=by unfold Zpa;rw [Zclh];exact ⟨by decide,fun _=>Zboj _ _ (by simp) (by simp [Zbkn];omega) fun _=>of_eq h (by simp)⟩
theorem Zcoa (w t a:List UInt8) (K:List UInt8->Int->Prop) (hw:w.length <= 10000000000) (ht:t.length <= 10000000000) (ha:a.length <= 10000000000) (h:K (Zrz w a t).1 (Zrz w a t).2):Zuh w t a K:=by
  unfold Zuh;rw [Ze (n:=(w.length:Int)+a.length) (by omega) (by omega),Ze (n:=(w.length:Int)+a.length+t.length) (by omega) (by omega),Ze (by omega) (by omega)]
  unfold Zrz at h;refine IfB.intro (fun h1=>?_) (fun h1=>?_)
  . have h1:4073<w.length+a.length+t.length:=by have:=of_decide_eq_true h1;omega
    rw [if_pos h1] at h;exact h
  . have h1: ¬4073<w.length+a.length+t.length:=by have:=of_decide_eq_false h1;omega
    rw [if_neg h1] at h;refine fun _=>Zbqc w _ (by omega) fun _ _=>Zbqc a _ (by omega) fun _ _=>Zboj _ _ (by simp) (by simp [Zbkn];omega) fun _=>Zcjk h ?_
    simp
theorem Zcey (u:Upd) (four:Bool) (K:List UInt8->Int->Prop) (h1:u.1.length <= 1000000000) (h2:u.2.1.length <= 1000000000) (h0:u.2.1.length=0) (hf:FitA (Zio u)) (h:K (updR u four).1 (updR u four).2):Zvv u four K:=by
  unfold Zvv;have b1:=Zyw u.1;have b2:=Zyw u.2.1;have key: ∀j,(j= !(u.1.all Zcz&&u.2.1.all Zcz))->Zxg four u (if u.1.all Zcz then Zev u.1 else []) (if u.2.1.all Zcz then Zev u.2.1 else []) j K:=fun j hj=>by
    unfold Zxg;simp only [Zfi];unfold updR at h;refine IfB.intro (fun h3=>?_) (fun h3=>?_);have:(u.1.all Zcz&&u.2.1.all Zcz)=false:=Zcka (h3▸hj);rw [this] at h;exact h
    . have e:(u.1.all Zcz&&u.2.1.all Zcz)=true:=Zccq (h3▸hj);rw [e,if_pos rfl] at h;obtain ⟨e1,e2⟩:=Bool.and_eq_true_iff.1 e;rw [e1,e2,if_pos rfl,if_pos rfl];refine IfB.intro (fun h4 _=>?_) (fun h4=>?_);exact absurd (of_decide_eq_true h4) (by omega)
      . have h4: ¬0<u.2.1.length:=by have:=of_decide_eq_false h4;omega
        rw [if_neg h4] at h;exact Zcoa _ _ _ K (by omega) (by omega) (by simp) h
  refine fun _=>Zbxz _ _ h1 fun _ _=>Zbxz _ _ h2 fun _=>?_;refine IfB.intro (fun h3=>key true ?_) (fun h3=>key _ ?_)
  . have:u.1.all Zcz=false:=by simpa using h3
    rw [this];rfl
  . have:u.1.all Zcz=true:=by simpa using h3
    rw [this];rfl
end Go.Proofs.YthdffaojeghaeaaGreatDoor
namespace Go.Proofs.YthdffaojeghaeaaGreatDoor
open Go.Sh
def pv (l:List (List UInt8)):Nat:=l.foldl (fun a w=>a*256+val w) 0
end Go.Proofs.YthdffaojeghaeaaGreatDoor
namespace Go.Proofs.YthdffaojeghaeaaGreatDoor
open Go.Sh
end Go.Proofs.YthdffaojeghaeaaGreatDoor
namespace Go.Proofs.YthdffaojeghaeaaGreatDoor
open Go.Sh
theorem Zxr (n:Nat) (h:n<256):(Lib.itoa n).length <= 3:=by
  unfold Lib.itoa;rw [if_neg (by omega),Int.toNat_natCast]
  unfold Lib.decDigits;split;simp;unfold Lib.decDigits;split;simp;unfold Lib.decDigits;split;simp;omega
def txt (a:Nat):List UInt8:=Lib.join [Lib.itoa ((a/16777216%256:Nat):Int),Lib.itoa ((a/65536%256:Nat):Int),Lib.itoa ((a/256%256:Nat):Int),Lib.itoa ((a%256:Nat):Int)] [46]
theorem Zceg (a:Nat):(txt a).length <= 15:=by
  have h1:=Zxr (a/16777216%256) (by omega);have h2:=Zxr (a/65536%256) (by omega);have h3:=Zxr (a/256%256) (by omega);have h4:=Zxr (a%256) (by omega)
  simp only [txt,Lib.join,List.intercalate,List.intersperse,List.flatten_cons,List.flatten_nil,List.length_append,List.length_cons,List.length_nil];omega
theorem Zcjf (a:Nat):txt a=Lib.join [Lib.decDigits (a/16777216%256),Lib.decDigits (a/65536%256),Lib.decDigits (a/256%256),Lib.decDigits (a%256)] [46]:=by unfold txt;rw [Zpj,Zpj,Zpj,Zpj]
def pfT (a n:Nat):List UInt8:=txt a++47::Lib.decDigits n
end Go.Proofs.YthdffaojeghaeaaGreatDoor
namespace Go.Proofs.YthdffaojeghaeaaGreatDoor
open Go.Sh
end Go.Proofs.YthdffaojeghaeaaGreatDoor
namespace Go.Proofs.YthdffaojeghaeaaGreatDoor
open Go.Sh
def pT (a:UInt32) (n:Int):List UInt8:=if right a.toNat n=true then pfT a.toNat n.toNat else []
theorem Zcbi (a:UInt32) (n:Int) (K:List UInt8->Prop) (hk:K (pT a n)):Zuo (a,n) K:=by
  unfold Zuo;simp only [Zfi];have ha:=UInt32.toNat_lt a;refine fun _=>Zbke a n _ fun _=>IfB.intro (fun h=>?_) (fun h=>?_)
  . have h:right a.toNat n=false:=by simpa using h
    unfold pT at hk;rw [h] at hk;exact hk
  have h:right a.toNat n=true:=by simpa using h
  obtain ⟨h0,h32,_⟩:=Zbqu.1 h;have hx: ∀s:Nat,s <= 24->IntKind.wrap .i64 (Zft .u32 (Int.fdiv (a.toNat:Int) ((2:Int)^(min s 32))) 255)=((a.toNat/2^s%256:Nat):Int):=by
    intro s hs;have hd:a.toNat/2^s <= a.toNat:=Nat.div_le_self _ _
    rw [Nat.min_eq_left (by omega),show ((2:Int)^s)=((2^s:Nat):Int) by rw [Int.natCast_pow];rfl,Int.fdiv_eq_ediv_of_nonneg _ (Int.natCast_nonneg _),← Int.natCast_ediv,
      show (255:Int)=((255:Nat):Int) from rfl,Zbbd .u32 _ _ (Zfv (by omega)) (Zfv (by decide)),Zcsj,wu32 (by omega),Zlw _ (by omega)]
  let L:List (List UInt8):=[Lib.itoa ((a.toNat/16777216%256:Nat):Int),Lib.itoa ((a.toNat/65536%256:Nat):Int),Lib.itoa ((a.toNat/256%256:Nat):Int),Lib.itoa ((a.toNat%256:Nat):Int)]
  refine Zk.up 4 (fun i=>(L.take i,(i:Int),())) (fun _=>True) rfl trivial (fun i hi _ next hn=>?_) (fun _ next=>?_)
  . intro _;dsimp only [Zbff];refine ifT (decide_eq_true (by omega)) ?_
    have e1:IntKind.wrap .i64 (24 - IntKind.wrap .i64 (8*(i:Int)))=((24 - 8*i:Nat):Int):=by rw [Ze (n:=8*(i:Int)) (by omega) (by omega),Ze (by omega) (by omega)];omega
    have e2:IntKind.wrap .i64 ((i:Int)+1)=((i+1:Nat):Int):=by rw [Ze (by omega) (by omega)];omega
    rw [e1,e2,Int.toNat_natCast,show IntKind.bits .u32=32 from rfl,hx _ (by omega)]
    refine ⟨by omega,fun _=>?_⟩
    unfold Zmj;intro _;refine ⟨by simp only [List.length_take,List.length_cons,List.length_nil];omega,of_eq (hn trivial) ?_⟩
    have hi4:i=0∨i=1∨i=2∨i=3:=by omega
    rcases hi4 with rfl | rfl | rfl | rfl;rfl;rfl;rfl;show (L,_,())=(L.take 3++[Lib.itoa ((a.toNat/1%256:Nat):Int)],_,());rw [Nat.div_one];rfl
  . intro _;dsimp only [Zbff];refine ifF (by decide) fun _=>?_
    unfold Zyk;have hl:=Zceg a.toNat;obtain ⟨m,rfl⟩:=Int.eq_ofNat_of_zero_le h0;have hm:m <= 32:=by omega
    have hd:=Zcia (u:=m) (k:=1) (by omega)
    have e3:Lib.itoa (m:Int)=Lib.decDigits m:=Zpj m;refine ⟨by simp [L],by show (txt a.toNat).length <= _;omega,fun _=>⟨by show (txt a.toNat).length+_ <= _;unfold Zj;simp only [List.length_cons,List.length_nil];omega,fun _=>?_⟩⟩
    unfold Zmj;rw [e3];refine fun _=>⟨by show (txt a.toNat++_).length+_ <= _;unfold Zj;simp only [List.length_append,List.length_cons,List.length_nil];omega,of_eq hk ?_⟩
    unfold pT pfT;rw [if_pos h];show _=txt a.toNat++[47]++Lib.decDigits m;simp
def within (p q:UInt32×Int):Bool:=right p.1.toNat p.2&&(right q.1.toNat q.2&&(decide (p.2 <= q.2)&&decide (q.1.toNat - q.1.toNat%Zdk p.2.toNat=p.1.toNat)))
end Go.Proofs.YthdffaojeghaeaaGreatDoor
set_option maxRecDepth 100000
namespace Go.Proofs.YthdffaojeghaeaaGreatDoor
open Go.Sh
theorem Zbpe (x y:UInt8) (r:List UInt8) (K:Int->Prop) (h:K ((x.toNat*256+y.toNat:Nat):Int)):Zsp (x::y::r) K:=by
  have hx:=UInt8.toNat_lt x;have hy:=UInt8.toNat_lt y;unfold Zsp;refine ⟨by decide,AtN.of rfl fun _=>⟨by decide,by decide,AtN.of rfl fun _=>of_eq h ?_⟩⟩
  rw [Zlw x.toNat (by omega),Zlw y.toNat (by omega),show (x.toNat:Int)*256=((x.toNat*256:Nat):Int) by omega,Zlw _ (by omega),Zju .i64 _ _ (Zxa (by omega)) (Zxa (by omega)),Zty _ _ (by omega),Zlw _ (by omega)]
theorem Zccl (x y:UInt8) (r:List UInt8) (K:List UInt8->List UInt8->Bool->Prop) (hl:r.length <= 1000000000) (h:if x.toNat*256+y.toNat <= r.length then K (r.take (x.toNat*256+y.toNat)) (r.drop (x.toNat*256+y.toNat)) true else K [] [] false):Zjt (x::y::r) K:=by
  have hx:=UInt8.toNat_lt x;have hy:=UInt8.toNat_lt y;unfold Zjt;refine ifF (decide_eq_false (by simp only [List.length_cons];omega)) fun _=>Zbpe x y r _ fun _=>?_
  have e:(((x::y::r).length:Nat):Int) - 2=(r.length:Int):=by simp only [List.length_cons];omega
  rw [e,Ze (n:=(r.length:Int)) (by omega) (by omega)]
  generalize hn:x.toNat*256+y.toNat=n at*;by_cases hc:n <= r.length
  . rw [if_pos hc] at h;rw [decide_eq_false (by omega)]
    unfold Zrj;refine ifF rfl fun _=>Zbpe x y r _ fun _=>?_;rw [hn];have e2:IntKind.wrap .i64 (2+(n:Int))=((2+n:Nat):Int):=by rw [Ze (by omega) (by omega)];omega
    rw [e2,Int.toNat_natCast];refine ⟨by omega,by simp only [List.length_cons];omega,by decide,by omega,by omega,by simp only [List.length_cons];omega,?_⟩
    have a1:(x::y::r).take (2+n)=x::y::r.take n:=by rw [Nat.add_comm];rfl
    have a2:(x::y::r).drop (2+n)=r.drop n:=by rw [Nat.add_comm];rfl
    rw [a1,a2];exact h
  . rw [if_neg hc] at h;rw [decide_eq_true (by omega)]
    unfold Zrj;exact ifT rfl h
def allF (l:List PfB):List Pf×Bool:=if l.all (fun x=>x.2.1)=true then (l.map fun x=>x.1,true) else ([],false)
theorem Zbvz (b:List UInt8) (K:List Pf->Bool->Prop) (hl:b.length <= 1000000000) (hp:(Zu b).length <= 1000000000) (h:K (allF (Zu b)).1 (allF (Zu b)).2):Zqe b K:=by
  unfold Zqe;refine ⟨show b.length <= _ by omega,?_⟩
  show Zim _ _ (Zu b) _;have main: ∀(post pre:List PfB),pre++post=Zu b->pre.all (fun x=>x.2.1)=true->Zim (fun (y:(List (UInt32×Int)×Bool×List (UInt32×Int)×Unit))=>WfY Zor.kinds y->Zbcx y.1 y.2.1 y.2.2.1 K)
      (fun (y:(List (UInt32×Int)×Bool×List (UInt32×Int)×Unit)) (x:((UInt32×Int)×Bool×Unit)) (next:(List (UInt32×Int)×Bool×List (UInt32×Int)×Unit)->Prop)=>WfY Zor.kinds y->WfPs Zhx.ps x->Zbva y.1 y.2.1 y.2.2.1 x.1 x.2.1 next K) post (([]:List (UInt32×Int)),false,(pre.map fun x=>x.1),()):=by
    intro post;induction post with
    | nil=>
      intro pre he ha _;rw [List.append_nil] at he;subst he;unfold Zbcx;unfold allF at h;rw [if_pos ha] at h;exact h
    | cons x post ih=>
      intro pre he ha _ _;refine IfB.intro (b:=!x.2.1) (fun h1=>?_) (fun h1=>?_)
      . have h1:x.2.1=false:=by simpa using h1
        have hb: ¬(Zu b).all (fun x=>x.2.1)=true:=by rw [← he];simp [h1]
        unfold allF at h;rw [if_neg hb] at h;exact h
      . have h1:x.2.1=true:=by simpa using h1
        have hlen:=congrArg List.length he;simp only [List.length_append,List.length_cons] at hlen;refine ⟨by simp only [List.length_map,List.length_cons,List.length_nil];omega,?_⟩
        have e:(pre.map fun x=>x.1)++[((ofI .u32 (x.1.1.toNat:Int)),x.1.2)]=(pre++[x]).map fun x=>x.1:=by simp [Zfi]
        have:=ih (pre++[x]) (by rw [List.append_assoc];exact he) (by rw [List.all_append,ha];simp [h1])
        rw [← e] at this;exact this
  exact main (Zu b) [] rfl rfl
def exU:Upd:=([(167772160,8)],[],0,[],0,false,0,false,0,false,false,0,0,[],[],0)
theorem Zcnz:updR exU false=([0,2,8,10,0,0],0):=by rfl
theorem Zcpe:pT 167772160 8= [49,48,46,48,46,48,46,48,47,56]:=by
  have d10:Lib.decDigits (167772160/16777216%256)= [49,48]:=by
    show Lib.decDigits 10=_;rw [Zbkf (by decide)]
    show Lib.decDigits 1++_=_;rw [Zre (by decide)];rfl
  have d0: ∀k:Nat,k=0->Lib.decDigits k= [48]:=fun k hk=>by subst hk;rw [Zre (by decide)];rfl
  have d8:Lib.decDigits (8:Int).toNat= [56]:=by
    show Lib.decDigits 8=_;rw [Zre (by decide)];rfl
  have hr:right (167772160:UInt32).toNat 8=true:=by decide
  unfold pT pfT;rw [if_pos hr,d8,show (167772160:UInt32).toNat=167772160 from rfl,Zcjf,d10,d0 (167772160/65536%256) (by decide)]
  rfl
end Go.Proofs.YthdffaojeghaeaaGreatDoor
set_option maxRecDepth 100000
namespace Go.Proofs.YthdffaojeghaeaaGreatDoor
open Go.Sh
def Zen:List UInt8->Option (List UInt8×List UInt8)
  | x::y::r=>if x.toNat*256+y.toNat <= r.length then some (r.take (x.toNat*256+y.toNat),r.drop (x.toNat*256+y.toNat)) else none
  | _=>none
theorem Zbis {b w r:List UInt8} (h:Zen b=some (w,r)):w.length <= b.length∧r.length <= b.length:=by unfold Zen at h;split at h;rename_i x y r';split at h;cases h;simp only [List.length_take,List.length_drop,List.length_cons];omega;cases h;cases h
theorem Zbmt (b:List UInt8) (K:List UInt8->List UInt8->Bool->Prop) (hl:b.length <= 1000000000) (h1: ∀w r,Zen b=some (w,r)->K w r true) (h2:Zen b=none->K [] [] false):Zjt b K:=by
  have short:b.length<2->Zjt b K:=fun hs=>by
    unfold Zjt;refine ifT (decide_eq_true (by omega)) ?_
    unfold Zrj;refine ifT rfl (h2 ?_)
    match b,hs with
    | [],_=>rfl
    | [_],_=>rfl
  match b,short with
  | [],short=>exact short (by decide)
  | [_],short=>exact short (by simp)
  | x::y::r,_=>
    refine Zccl x y r K (by simp only [List.length_cons] at hl;omega) ?_
    split;rename_i hc;exact h1 _ _ (by simp only [Zen];rw [if_pos hc])
    rename_i hc;exact h2 (by simp only [Zen];rw [if_neg hc])
theorem Zye: ∀(k:Nat) (s:List UInt8),(Zhb k s).length <= k
  | 0,_=>by simp [Zhb]
  | _+1,[]=>by simp [Zhb]
  | k+1,x::r=>by simp only [Zhb];split;have:=Zye k (r.drop (oct8 x.toNat));simp only [List.length_cons];omega;simp
theorem Ztb (s:List UInt8):(allF (Zu s)).1.length <= s.length:=by unfold allF;split;rw [List.length_map];exact Zye _ _;simp
def mkU (g t:List Pf) (a:Zo) (f:Int):Upd:=(g,t,a.1,a.2.1,a.2.2.1,a.2.2.2.1,a.2.2.2.2.1,a.2.2.2.2.2.1,a.2.2.2.2.2.2.1,a.2.2.2.2.2.2.2.1,a.2.2.2.2.2.2.2.2.1,a.2.2.2.2.2.2.2.2.2.1,a.2.2.2.2.2.2.2.2.2.2.1,a.2.2.2.2.2.2.2.2.2.2.2.1,a.2.2.2.2.2.2.2.2.2.2.2.2,f)
def Zjs:Upd:=mkU [] [] Zfs 0
def Zfa (four:Bool) (b:List UInt8):Upd×(Int×Int×List UInt8)×Bool:=
  match Zen b with
  | none=>(Zjs,(3,1,[]),false)
  | some (w,r)=>match Zen r with
    | none=>(Zjs,(3,1,[]),false)
    | some (x,t)=>
      if (Zbp four (decide (0<t.length)) x).2.1=3 then (Zjs,Zkj (Zbp four (decide (0<t.length)) x).2.2,false)
      else if (allF (Zu w)).2=true∧(allF (Zu t)).2=true then
        if (Zbp four (decide (0<t.length)) x).2.1=2 then (mkU ((allF (Zu w)).1++(allF (Zu t)).1) [] Zfs 2,(0,0,[]),true)
        else if 0<(allF (Zu t)).1.length then (mkU (allF (Zu w)).1 (allF (Zu t)).1 (Zbp four (decide (0<t.length)) x).1 (Zbp four (decide (0<t.length)) x).2.1,(0,0,[]),true)
        else (mkU (allF (Zu w)).1 [] Zfs (Zbp four (decide (0<t.length)) x).2.1,(0,0,[]),true)
      else (Zjs,(3,10,[]),false)
theorem Zbwl (b:List UInt8) (four:Bool) (K:Upd->Int×Int×List UInt8->Bool->Prop) (hl:b.length <= 100000) (h:K (Zfa four b).1 (Zfa four b).2.1 (Zfa four b).2.2):Zoe b four K:=by
  unfold Zoe;simp only [Zfi];unfold Zlo;unfold Zfa at h;refine fun _=>Zbmt b _ (by omega) (fun w r e1 _=>?_) fun e1 _=>?_
  rotate_left
  rw [e1] at h;exact ifT rfl fun _ _=>h;rw [e1] at h;obtain ⟨l1,l2⟩:=Zbis e1;refine ifF rfl fun _=>Zbmt r _ (by omega) (fun x t e2 _=>?_) fun e2 _=>?_
  rotate_left
  simp only [e2] at h;exact ifT rfl fun _ _=>h;simp only [e2] at h;obtain ⟨l3,l4⟩:=Zbis e2;have ed:decide ((((t.length:Nat):Int):Int)>0)=decide (0<t.length):=by
    by_cases hc:0<t.length;rw [decide_eq_true hc,decide_eq_true (by omega)]
    rw [decide_eq_false hc,decide_eq_false (by omega)]
  rw [ed];refine fun _=>⟨by omega,fun _=>?_⟩
  generalize Zbp four (decide (0<t.length)) x=q at*;have p1:=Ztb w;have p2:=Ztb t;have q1:=Zye w.length w;have q2:=Zye t.length t;refine IfB.intro (fun g=>?_) (fun g _=>Zbvz w _ (by omega) (by unfold Zu;omega) fun _ _=>Zbvz t _ (by omega) (by unfold Zu;omega) fun _=>?_)
  . have g:(q.2.1:Int)=3:=by simpa using g
    rw [if_pos (by omega)] at h;exact h
  have g: ¬(q.2.1:Int)=3:=by simpa using g
  rw [if_neg (by omega)] at h
  have bad: ¬((allF (Zu w)).2=true∧(allF (Zu t)).2=true)->Zrg q.1 (q.2.1:Int) (allF (Zu w)).1 (allF (Zu t)).1 true K:=fun hb=>by rw [if_neg hb] at h;unfold Zrg Zlo;simp only [Zfi];exact ifT rfl fun _ _=>h
  refine IfB.intro (fun g1=>bad fun e=>by rw [e.1] at g1;cases g1) (fun g1=>?_)
  have g1:(allF (Zu w)).2=true:=by simpa using g1
  cases g2:(allF (Zu t)).2 with
  | false=>exact bad fun e=>by rw [g2] at e;exact absurd e.2 (by decide)
  | true=>
    rw [if_pos ⟨g1,g2⟩] at h;unfold Zrg;refine ifF rfl (IfB.intro (fun g3=>?_) (fun g3=>IfB.intro (fun g4=>?_) (fun g4=>?_)))
    . have g3:(q.2.1:Int)=2:=by simpa using g3
      rw [if_pos (by omega)] at h
      refine ⟨by omega,?_⟩
      unfold Zlp;rw [g3];exact h
    . have g3: ¬(q.2.1:Int)=2:=by simpa using g3
      have g4:0<(allF (Zu t)).1.length:=by have:=of_decide_eq_true g4;omega
      rw [if_neg (by omega),if_pos g4] at h
      unfold Zlp;simp only [Zfi];exact h
    . have g3: ¬(q.2.1:Int)=2:=by simpa using g3
      have g4: ¬0<(allF (Zu t)).1.length:=by have:=of_decide_eq_false g4;omega
      rw [if_neg (by omega),if_neg g4] at h
      unfold Zlp;exact h
end Go.Proofs.YthdffaojeghaeaaGreatDoor
namespace Go.Proofs.YthdffaojeghaeaaGreatDoor
open Go.Sh
theorem Zcvm (j m:Nat) (x:UInt8) (hj:j <= 3) (hm:m<256^j):Zhp ((2^(32 - 8*j)*m:Nat):Int) j x=((2^(24 - 8*j)*(m*256+x.toNat):Nat):Int):=by
  have hx:=UInt8.toNat_lt x;have e1:2^(32 - 8*j)=2^(24 - 8*j)*256:=by rw [show 32 - 8*j=24 - 8*j+8 by omega,Nat.pow_add]
  have e2:2^(24 - 8*j)*256^(j+1)=4294967296:=by
    have:(256:Nat)^(j+1)=2^(8*(j+1)):=by rw [Nat.pow_mul]
    rw [this,← Nat.pow_add,show 24 - 8*j+8*(j+1)=32 by omega]
  have hp:0<2^(24 - 8*j):=Nat.two_pow_pos _;have h1:m*256+x.toNat<256^(j+1):=by rw [Nat.pow_succ];omega
  have h2:2^(24 - 8*j)*(m*256+x.toNat)<4294967296:=by rw [← e2];exact Nat.mul_lt_mul_of_pos_left h1 hp
  have h3:2^(32 - 8*j)*m+x.toNat*2^(24 - 8*j)=2^(24 - 8*j)*(m*256+x.toNat):=by rw [e1,Nat.mul_add,Nat.mul_comm x.toNat,Nat.mul_assoc,Nat.mul_comm 256 m]
  have h4:x.toNat*2^(24 - 8*j)<2^(32 - 8*j):=by rw [e1,Nat.mul_comm];exact Nat.mul_lt_mul_of_pos_left hx hp
  unfold Zhp
  rw [Nat.min_eq_left (by omega),wu32 (a:=x.toNat) (by omega),show (x.toNat:Int)*2^(24 - 8*j)=((x.toNat*2^(24 - 8*j):Nat):Int) by rw [Int.natCast_mul,Int.natCast_pow];rfl,wu32 (by omega),
    Zju .u32 _ _ (Zfv (by omega)) (Zfv (by omega)),Zpx _ _ _ h4,wu32 (by omega),h3]
theorem Zbpa: ∀(l:List UInt8) (j m:Nat),j+l.length <= 4->m<256^j->pxF j ((2^(32 - 8*j)*m:Nat):Int) l=((2^(32 - 8*(j+l.length))*l.foldl (fun a x=>a*256+x.toNat) m:Nat):Int)
  | [],j,m,_,_=>rfl
  | x::l,j,m,hl,hm=>by
    simp only [List.length_cons] at hl;have hx:=UInt8.toNat_lt x;simp only [pxF];rw [Zcvm j m x (by omega) hm,show 24 - 8*j=32 - 8*(j+1) by omega,Zbpa l (j+1) (m*256+x.toNat) (by omega) (by rw [Nat.pow_succ];omega)]
    simp only [List.length_cons,List.foldl_cons];rw [show j+1+l.length=j+(l.length+1) by omega]
theorem Zbzo (l:List UInt8) (h:l.length <= 4):pxN l=numB l*256^(4 - l.length):=by
  have:=Zbpa l 0 0 (by omega) (by decide)
  unfold pxN;have e:((2^(32 - 8*0)*0:Nat):Int)=0:=by simp
  rw [e] at this;rw [this,Int.toNat_natCast,Nat.mul_comm];show numB l*2^(32 - 8*(0+l.length))=_;congr 1;rw [show 32 - 8*(0+l.length)=8*(4 - l.length) by omega,Nat.pow_mul]
def pxT (out:List Pf) (r:List UInt8) (K:List Pf->Bool->Prop):Prop:=if (Zu r).all (fun x=>x.2.1)=true then K (out++(Zu r).map fun x=>x.1) true else K [] false
theorem Zccz {out:List Pf} {x:UInt8} {r:List UInt8} {K:List Pf->Bool->Prop} (hc: ¬(x.toNat <= 32∧oct8 x.toNat <= r.length)) (h:pxT out (x::r) K):K [] false:=by
  unfold pxT at h;rw [Zbfh hc,if_neg (by simp)] at h
  exact h
theorem Zcqq {out:List Pf} {x:UInt8} {r:List UInt8} {K:List Pf->Bool->Prop} (hc:x.toNat <= 32∧oct8 x.toNat <= r.length) (h:pxT out (x::r) K):pxT (out++[Zpu x.toNat (r.take (oct8 x.toNat))]) (r.drop (oct8 x.toNat)) K:=by unfold pxT at h ⊢;rw [Zbto hc] at h;simp only [List.all_cons,Bool.true_and,List.map_cons] at h;rw [List.append_assoc];exact h
theorem Zbzt (b:List UInt8) (K:List Pf->Bool->Prop) (hl:b.length <= 1000000000) (h:pxT [] b K):Zly b K:=by
  unfold Zly;refine ⟨fun k x=>∃(i:Nat) (out:List Pf),x=(out,(i:Int),())∧k=b.length - i∧i <= b.length∧out.length <= i∧pxT out (b.drop i) K,b.length,⟨0,[],rfl,rfl,Nat.zero_le _,Nat.le_refl _,h⟩,?_⟩;rintro k x ⟨i,out,rfl,rfl,hi,hlen,hr⟩;intro _;dsimp only [Zbow];by_cases h0:i<b.length
  case neg=>
    refine ifF (decide_eq_false (by omega)) ?_
    rw [List.drop_eq_nil_of_le (by omega)] at hr
    unfold pxT at hr;simp only [Zcfq,List.all_nil,if_true,List.map_nil,List.append_nil] at hr;exact hr
  have hd:b.drop i=b[i]::b.drop (i+1):=List.drop_eq_getElem_cons h0;rw [hd] at hr;have hx:=UInt8.toNat_lt b[i];generalize hbi:b[i]=x at*;have hat:b[i]? =some x:=by rw [← hbi];exact List.getElem?_eq_getElem h0
  have hrl:(b.drop (i+1)).length=b.length - (i+1):=List.length_drop;have wx:IntKind.wrap .i64 (x.toNat:Int)=(x.toNat:Int):=Ze (by omega) (by omega)
  have wo:IntKind.wrap .i64 (Int.tdiv (IntKind.wrap .i64 ((x.toNat:Int)+7)) 8)=((oct8 x.toNat:Nat):Int):=by
    rw [Ze (n:=(x.toNat:Int)+7) (by omega) (by omega),Int.tdiv_eq_ediv_of_nonneg (by omega),Ze (by omega) (by omega)]
    unfold oct8;omega
  have wl:IntKind.wrap .i64 (IntKind.wrap .i64 ((b.length:Int) - (i:Int)) - 1)=((b.drop (i+1)).length:Int):=by
    rw [Ze (n:=(b.length:Int) - (i:Int)) (by omega) (by omega),Ze (by omega) (by omega)];omega
  have bad: ¬(x.toNat <= 32∧oct8 x.toNat <= (b.drop (i+1)).length)->Zqj b out (i:Int) x (fun x'=>∃k',k'<b.length - i∧∃(i:Nat) (out:List Pf),x'=(out,(i:Int),())∧k'=b.length - i∧i <= b.length∧out.length <= i∧pxT out (b.drop i) K) true K:=fun hc=>by unfold Zqj;exact ifT rfl (Zccz hc hr)
  refine ifT (decide_eq_true (by omega)) ⟨by omega,AtN.of (by rw [Int.toNat_natCast];exact hat) fun _=>⟨by decide,?_⟩⟩
  rw [wx,wo,wl];refine IfB.intro (fun h1=>?_) (fun h1=>?_)
  . exact bad fun hc=>by have:=of_decide_eq_true h1;omega
  have h1:x.toNat <= 32:=by have:=of_decide_eq_false h1;omega
  by_cases hc:oct8 x.toNat <= (b.drop (i+1)).length
  case neg=>
    rw [decide_eq_true (by omega)]
    exact bad fun h=>hc h.2
  rw [decide_eq_false (by omega)]
  have ho:oct8 x.toNat <= 4:=by unfold oct8;omega
  generalize hko:oct8 x.toNat=o at*;have hll:((b.drop (i+1)).take o).length=o:=by rw [List.length_take];omega
  have hg: ∀j:Nat,numB (((b.drop (i+1)).take o).take j)*256^(j - o)<256^j∨4<j:=fun j=>by
    rcases Nat.lt_or_ge 4 j with h4 | h4;exact .inr h4;refine .inl ?_;have h5:=Zjc (((b.drop (i+1)).take o).take j);have h6:(((b.drop (i+1)).take o).take j).length=min j o:=by rw [List.length_take,hll]
    rw [h6] at h5;have h7:256^j=256^(min j o)*256^(j - o):=by rw [← Nat.pow_add];congr 1;omega
    rw [h7];exact Nat.mul_lt_mul_of_pos_right h5 (Nat.pow_pos (by decide))
  unfold Zqj;refine ifF rfl (Zk.up 4 (fun j=>(((numB (((b.drop (i+1)).take o).take j)*256^(j - o):Nat):Int),(j:Int),())) (fun _=>True) (by simp [numB]) trivial (fun j hj _ next hn=>?_) (fun _ next=>?_))
  . intro _;dsimp only [Zbbk];have hgj:=(hg j).resolve_right (by omega)
    have h256:256^j <= 256^3:=Nat.pow_le_pow_right (by decide) (by omega)
    have e256:(256:Nat)^3=16777216:=rfl;rw [wx,wo];refine ifT (decide_eq_true (by omega)) (IfB.intro (fun h2=>?_) (fun h2=>?_))
    . have h2:j<o:=by have:=of_decide_eq_true h2;omega
      have w3:IntKind.wrap .i64 (IntKind.wrap .i64 ((i:Int)+1)+(j:Int))=((i+1+j:Nat):Int):=by
        rw [Ze (n:=(i:Int)+1) (by omega) (by omega),Ze (by omega) (by omega)];omega
      rw [w3,Int.toNat_natCast];obtain ⟨v,hv⟩: ∃v,b[i+1+j]? =some v:=⟨_,List.getElem?_eq_getElem (by omega)⟩
      have hvl:=UInt8.toNat_lt v;have hv2:((b.drop (i+1)).take o)[j]? =some v:=by rw [List.getElem?_take_of_lt h2,List.getElem?_drop];exact hv
      have e6:((b.drop (i+1)).take o).take (j+1)=((b.drop (i+1)).take o).take j++[v]:=by rw [List.take_add_one,hv2];rfl
      refine ⟨by omega,AtN.of hv fun _=>?_⟩
      unfold Zwq;refine of_eq (hn trivial) ?_;have z1:j - o=0:=by omega
      have z2:j+1 - o=0:=by omega
      rw [e6,Zyz,z1,z2,Nat.pow_zero,Nat.mul_one,Nat.mul_one];rw [z1,Nat.pow_zero,Nat.mul_one] at hgj;generalize numB (((b.drop (i+1)).take o).take j)=a at*;rw [show 256*(a:Int)=((a*256:Nat):Int) by omega,Zgy _ (by omega),Zgy v.toNat (by omega),← Int.natCast_add,Zgy _ (by omega),Ze (by omega) (by omega)]
      rfl
    . have h2:o <= j:=by have:=of_decide_eq_false h2;omega
      unfold Zwq;refine of_eq (hn trivial) ?_;have t1:((b.drop (i+1)).take o).take j=(b.drop (i+1)).take o:=List.take_of_length_le (by omega)
      have t2:((b.drop (i+1)).take o).take (j+1)=(b.drop (i+1)).take o:=List.take_of_length_le (by omega)
      have t3:j+1 - o=j - o+1:=by omega
      rw [t1] at hgj;rw [t1,t2,t3,Nat.pow_succ,← Nat.mul_assoc];generalize numB ((b.drop (i+1)).take o)*256^(j - o)=a at*;rw [show 256*(a:Int)=((a*256:Nat):Int) by omega,Zgy _ (by omega),Ze (by omega) (by omega)]
      rfl
  . intro _;dsimp only [Zbbk];have hg4:=(hg 4).resolve_right (by omega)
    have e256:(256:Nat)^4=4294967296:=rfl;have t1:((b.drop (i+1)).take o).take 4=(b.drop (i+1)).take o:=List.take_of_length_le (by omega)
    rw [t1] at hg4 ⊢;have hpx:=Zbzo ((b.drop (i+1)).take o) (by omega)
    rw [hll] at hpx;rw [← hpx] at hg4 ⊢;rw [wx,wo];have hs0:0<Zdk x.toNat:=Nat.pow_pos (by decide)
    refine ifF (decide_eq_false (by omega)) fun _=>Zbxy (x.toNat:Int) _ (by omega) fun _=>⟨by rw [Int.toNat_natCast];omega,fun _=>Zbxy (x.toNat:Int) _ (by omega) fun _=>?_⟩
    rw [Int.toNat_natCast];have e1:Int.tdiv ((pxN ((b.drop (i+1)).take o):Nat):Int) (Zdk x.toNat:Nat)=((pxN ((b.drop (i+1)).take o)/Zdk x.toNat:Nat):Int):=rfl;have hdm:=Nat.div_add_mod (pxN ((b.drop (i+1)).take o)) (Zdk x.toNat);have e2:pxN ((b.drop (i+1)).take o)/Zdk x.toNat*Zdk x.toNat=pxN ((b.drop (i+1)).take o) - pxN ((b.drop (i+1)).take o)%Zdk x.toNat:=by rw [Nat.mul_comm];omega
    have d1:=Nat.div_le_self (pxN ((b.drop (i+1)).take o)) (Zdk x.toNat);rw [e1,Zgy _ (by omega),← Int.natCast_mul,e2,Zgy _ (by omega),wu32 (by omega)]
    have e3:(ofI .u32 ((pxN ((b.drop (i+1)).take o) - pxN ((b.drop (i+1)).take o)%Zdk x.toNat:Nat):Int),(x.toNat:Int))=Zpu x.toNat ((b.drop (i+1)).take o):=by unfold Zpu;rfl
    rw [e3];have w5:IntKind.wrap .i64 ((i:Int)+IntKind.wrap .i64 (1+((o:Nat):Int)))=((i+1+o:Nat):Int):=by
      rw [Ze (n:=1+(o:Int)) (by omega) (by omega),Ze (by omega) (by omega)];omega
    rw [w5];refine ⟨by simp only [List.length_cons,List.length_nil];omega,b.length - (i+1+o),by omega,i+1+o,_,rfl,rfl,by omega,by simp only [List.length_append,List.length_cons,List.length_nil];omega,?_⟩
    have:=Zcqq (r:=b.drop (i+1)) ⟨h1,by rw [hko];exact hc⟩ hr
    rw [hko,List.drop_drop] at this;exact this
end Go.Proofs.YthdffaojeghaeaaGreatDoor
set_option maxRecDepth 100000
namespace Go.Proofs.YthdffaojeghaeaaGreatDoor
open Go.Sh
end Go.Proofs.YthdffaojeghaeaaGreatDoor
namespace Go.Proofs.YthdffaojeghaeaaGreatDoor
open Go.Sh
theorem mism {A:Type} [BEq A] [LawfulBEq A] {s t pre post:List A} {x y:A} (hs:s=pre++x::post) (ht:t[pre.length]? =some y) (h:x≠y):(s==t)=false:=by
  refine beq_eq_false_iff_ne.2 fun e=>h ?_;have h1:s[pre.length]? =some x:=by rw [hs];simp
  rw [e,ht] at h1;cases h1;rfl
theorem Zru {A:Type} {t pre:List A} {x:A} (hP:pre=t.take pre.length) (ht:t[pre.length]? =some x):pre++[x]=t.take (pre++[x]).length:=by rw [List.length_append,List.length_singleton,List.take_add_one,ht,← hP];rfl
theorem Zoy {A:Type} [BEq A] [LawfulBEq A] {s t:List A} (hP:s=t.take s.length) (hl:s.length=t.length):(s==t)=true:=by rw [hl,List.take_length] at hP;exact beq_iff_eq.2 hP
theorem at_len {A:Type} {t:List A} {n:Nat} (h:n<t.length):t[((n:Nat):Int).toNat]? =some t[n]:=by rw [Int.toNat_natCast];exact List.getElem?_eq_getElem h
theorem ne32 (x y:UInt32):((x.toNat:Int) !=(y.toNat:Int))= !(x==y):=by
  by_cases h:x=y;subst h;simp
  . have h1:(x.toNat:Int)≠y.toNat:=fun e=>h (UInt32.toNat_inj.1 (by omega))
    have h2:(x==y)=false:=beq_eq_false_iff_ne.2 h;rw [h2,bne_iff_ne.2 h1];rfl
theorem Zzs {A:Type} [BEq A] [LawfulBEq A] {s t:List A} (h:((s.length:Int) !=(t.length:Int))=true):(s==t)=false:=by refine beq_eq_false_iff_ne.2 fun e=>?_;subst e;simp at h
theorem Zrp {A:Type} {s t:List A} (h:((s.length:Int) !=(t.length:Int))=false):s.length=t.length:=by simp at h;omega
def perh (i w s:Bool):Bool:=i==w&&(!i||s)
def Zfn (a b:Zo):Bool:=
  a.origin==b.origin&&(a.next==b.next&&(a.atomic==b.atomic&&(perh a.hasMed b.hasMed (a.med==b.med)&&(perh a.hasLocal b.hasLocal (a.loc==b.loc)&&
    (perh a.hasMaker b.hasMaker (a.makerAS==b.makerAS&&a.maker==b.maker)&&(a.path==b.path&&(a.comms==b.comms&&a.others==b.others)))))))
theorem Zcqn {i s:Bool} (h:s=true):perh i i s=true:=by subst h;cases i<;>rfl
theorem Zcaz (a:Zo):Zfn a a=true:=by unfold Zfn;simp only [beq_self_eq_true,Bool.true_and,Bool.and_true,Zcqn rfl]
end Go.Proofs.YthdffaojeghaeaaGreatDoor
namespace Go.Proofs.YthdffaojeghaeaaGreatDoor
open Go.Sh
theorem Zcsq (s t:List Seg) (K:Bool->Prop) (hl:s.length <= 9223372036854775807) (hs: ∀x∈s,x.2.length <= 9223372036854775807) (h:K (s==t)):Zze s t K:=by
  unfold Zze;refine IfB.intro (fun h1=>of_eq h (Zzs h1)) (fun h1=>?_);have h1:=Zrp h1;refine Zk.over s (fun pre=>((pre.length:Int),())) (fun pre=>pre=t.take pre.length) rfl rfl (fun pre x post hp hn hP next hx=>?_) (fun hP next _=>?_)
  . intro _;dsimp only [Zbar];have hlt:pre.length<t.length:=by omega
    have hty:t[pre.length]? =some t[pre.length]:=List.getElem?_eq_getElem hlt;have hat:=at_len hlt;have hxl:=hs x (by simp [hp])
    generalize t[pre.length]=y at hty hat;have hne: ∀(g:x≠y),K false:=fun g=>of_eq h (mism hp hty g);have hj: ∀j:Bool,(j=true->x≠y)->(j=false->x.1=y.1∧x.2.length=y.2.length)->Ztm s t (pre.length:Int) next j K:=fun j k1 k2=>by
      unfold Ztm;refine IfB.intro (fun g=>hne (k1 g)) (fun g=>?_);obtain ⟨q1,q2⟩:=k2 g;refine Zk.over x.2 (fun l=>((l.length:Int),())) (fun l=>l=y.2.take l.length) rfl rfl (fun l z r hz hm hL next' hy=>?_) (fun hL next' _=>?_)
      . intro _;dsimp only [Zbaw];have hlt2:l.length<y.2.length:=by omega
        refine ⟨by omega,AtN.of (Zcf hp) fun _=>ifT (decide_eq_true (by omega)) ⟨by omega,AtN.of (Zcf hp) fun _=>⟨by omega,AtN.of (Zcf hz) fun _=>⟨by omega,AtN.of hat fun _=>⟨by omega,AtN.of (at_len hlt2) fun _=>?_⟩⟩⟩⟩⟩
        rw [ne32];refine IfB.intro (fun g2=>hne fun e=>?_) (fun g2=>of_eq (hy ?_) ?_)
        . have g3:=mism hz (List.getElem?_eq_getElem hlt2) (by simpa using g2)
          rw [e] at g3;simp at g3
        exact Zru hL (by rw [List.getElem?_eq_getElem hlt2];congr 1;simpa using (by simpa using g2:z=y.2[l.length]).symm)
        . rw [Ze (by omega) (by omega)];simp
      . dsimp only [Zbaw];refine ⟨by omega,AtN.of (Zcf hp) fun _=>ifF (decide_eq_false (by omega)) (of_eq (hx ?_) ?_)⟩
        have e2:x.2=y.2:=beq_iff_eq.1 (Zoy hL q2);exact Zru hP (by rw [hty];congr 1;exact Prod.ext q1.symm e2.symm)
        . rw [Ze (by omega) (by omega)];simp
    refine ifT (decide_eq_true (by omega)) ⟨by omega,AtN.of (Zcf hp) fun _=>⟨by omega,AtN.of hat fun _=>?_⟩⟩
    refine IfB.intro (fun g=>hj true (fun _ e=>by rw [e] at g;simp at g) (fun g=>by cases g)) (fun g=>⟨by omega,AtN.of (Zcf hp) fun _=>⟨by omega,AtN.of hat fun _=>hj _ (fun g2 e=>by rw [e] at g2;simp at g2) (fun g2=>⟨by simpa using g,Zrp g2⟩)⟩⟩)
  dsimp only [Zbar];exact ifF (decide_eq_false (by omega)) (of_eq h (Zoy hP h1))
theorem Zcif (a b:Zo) (K:Bool->Prop) (hc:a.comms.length <= 9223372036854775807) (ho:a.others.length <= 9223372036854775807) (h1:a.comms.length=b.comms.length) (h2:a.others.length=b.others.length) (h:K (a.comms==b.comms&&a.others==b.others)):Zbc a b false K:=by
  obtain ⟨origin,path,nxt,hasMed,med,hasLocal,loc,atomic,hasMaker,makerAS,maker,comms,others⟩:=a;obtain ⟨origin',path',nxt',hasMed',med',hasLocal',loc',atomic',hasMaker',makerAS',maker',comms',others'⟩:=b;simp only [Zo.comms,Zo.others] at*;unfold Zbc;refine ifF rfl ?_;refine Zk.over comms (fun pre=>((pre.length:Int),())) (fun pre=>pre=comms'.take pre.length) rfl rfl (fun pre x post hp hn hP next hx=>?_) (fun hP next _=>?_)
  . intro _;dsimp only [Zbfl];have hlt:pre.length<comms'.length:=by omega
    refine ifT (decide_eq_true (by omega)) ⟨by omega,AtN.of (Zcf hp) fun _=>⟨by omega,AtN.of (at_len hlt) fun _=>?_⟩⟩
    rw [ne32];refine IfB.intro (fun g=>of_eq h (by rw [mism hp (List.getElem?_eq_getElem hlt) (by simpa using g),Bool.false_and])) (fun g=>of_eq (hx ?_) ?_)
    exact Zru hP (by rw [List.getElem?_eq_getElem hlt];congr 1;simpa using (by simpa using g:x=comms'[pre.length]).symm)
    . rw [Ze (by omega) (by omega)];simp
  . dsimp only [Zbfl];refine ifF (decide_eq_false (by omega)) ?_
    rw [Zoy hP h1,Bool.true_and] at h;refine Zk.over others (fun pre=>((pre.length:Int),())) (fun pre=>pre=others'.take pre.length) rfl rfl (fun pre x post hp hn hP next hx=>?_) (fun hP next _=>?_)
    . intro _;dsimp only [Zbdq];have hlt:pre.length<others'.length:=by omega
      have hty:others'[pre.length]? =some others'[pre.length]:=List.getElem?_eq_getElem hlt;have hat:=at_len hlt;generalize others'[pre.length]=y at hty hat;have hj: ∀j:Bool,(j=true->x≠y)->(j=false->x=y)->Zun (origin,path,nxt,hasMed,med,hasLocal,loc,atomic,hasMaker,makerAS,maker,comms,others) (origin',path',nxt',hasMed',med',hasLocal',loc',atomic',hasMaker',makerAS',maker',comms',others') (pre.length:Int) next j K:=fun j k1 k2=>by
        unfold Zun;refine IfB.intro (fun g=>of_eq h (mism hp hty (k1 g))) (fun g=>of_eq (hx ?_) ?_);exact Zru hP (by rw [hty,k2 g])
        . rw [Ze (by omega) (by omega)];simp
      refine ifT (decide_eq_true (by omega)) ⟨by omega,AtN.of (Zcf hp) fun _=>⟨by omega,AtN.of hat fun _=>?_⟩⟩
      refine IfB.intro (fun g=>hj true (fun _ e=>by rw [e] at g;simp at g) (fun g=>by cases g)) (fun g=>⟨by omega,AtN.of (Zcf hp) fun _=>⟨by omega,AtN.of hat fun _=>hj _ (fun g2 e=>by rw [e] at g2;simp at g2) (fun g2=>Prod.ext (by simpa using g) (by simpa using g2))⟩⟩)
    dsimp only [Zbdq];exact ifF (decide_eq_false (by omega)) (of_eq h (Zoy hP h2))
theorem stg {i w:Bool} {x y:UInt32} {J X:Prop} (h1:perh i w (x==y)=false->J) (h2:perh i w (x==y)=true->X):IfB (!(i==w)) J (IfB i (IfB ((x.toNat:Int) !=(y.toNat:Int)) J X) X):=by rw [ne32];cases i<;>cases w<;>cases hxy:(x==y)<;>simp_all [IfB,perh]
theorem stg2 {i w:Bool} {x y u v:UInt32} {J X:Prop} (h1:perh i w (x==y&&u==v)=false->J) (h2:perh i w (x==y&&u==v)=true->X):IfB (!(i==w)) J (IfB i (IfB ((x.toNat:Int) !=(y.toNat:Int)) J (IfB ((u.toNat:Int) !=(v.toNat:Int)) J X)) X):=by rw [ne32,ne32];cases i<;>cases w<;>cases hxy:(x==y)<;>cases huv:(u==v)<;>simp_all [IfB,perh]
theorem Zcfu (a b:Zo) (K:Bool->Prop) (hl:a.path.length <= 9223372036854775807) (hs: ∀x∈a.path,x.2.length <= 9223372036854775807) (hc:a.comms.length <= 9223372036854775807) (ho:a.others.length <= 9223372036854775807) (h:K (Zfn a b)):Zum a b K:=by
  have no:Zfn a b=false->Zbc a b true K:=fun e=>by unfold Zbc;exact ifT rfl (of_eq h e)
  unfold Zum;rw [ne32];refine IfB.intro (fun g=>no (by simp at g;simp [Zfn,g])) (fun g1 _=>Zcsq _ _ _ hl hs fun _=>?_)
  refine IfB.intro (fun g=>no (by simp at g;simp [Zfn,g])) (fun g2=>?_)
  refine IfB.intro (fun g=>no (by simp at g;simp [Zfn,g])) (fun g3=>?_)
  refine stg (fun g=>no (by simp [Zfn,g])) (fun g4=>?_)
  refine stg (fun g=>no (by simp [Zfn,g])) (fun g5=>?_)
  refine IfB.intro (fun g=>no (by simp at g;simp [Zfn,g])) (fun g6=>?_)
  refine stg2 (fun g=>no (by simp [Zfn,g])) (fun g7=>?_)
  have e1:(a.origin==b.origin)=true:=by simpa using g1
  have e2:(a.path==b.path)=true:=by simpa using g2
  have e3:(a.next==b.next)=true:=by simpa using g3
  have e6:(a.atomic==b.atomic)=true:=by simpa using g6
  refine IfB.intro (fun g=>no (by have:=Zzs g;simp [Zfn,this])) (fun g8=>?_)
  have q1:=Zrp g8;have key: ∀j,((a.others.length:Int) !=(b.others.length:Int))=j->Zbc a b j K:=fun j g9=>by
    cases j with
    | true=>
      have:=Zzs g9;exact no (by simp [Zfn,this])
    | false=>
      refine Zcif a b K hc ho q1 (Zrp g9) (of_eq h ?_);unfold Zfn;rw [e1,e2,e3,e6,g4,g5,g7];simp only [Bool.true_and]
  exact key _ rfl
end Go.Proofs.YthdffaojeghaeaaGreatDoor
namespace Go.Proofs.YthdffaojeghaeaaGreatDoor
open Go.Sh
end Go.Proofs.YthdffaojeghaeaaGreatDoor
set_option maxRecDepth 100000
namespace Go.Proofs.YthdffaojeghaeaaGreatDoor
open Go.Sh
end Go.Proofs.YthdffaojeghaeaaGreatDoor
set_option maxRecDepth 100000
namespace Go.Proofs.YthdffaojeghaeaaGreatDoor
open Go.Sh
theorem Zcmf:Zfa false [0,2,8,10,0,0]=(mkU [(167772160,8)] [] Zfs 0,(0,0,[]),true):=by rfl
theorem Zcjn (K:Bool->Prop) (h:K true):Zsx K:=by
  unfold Zsx;have e1:(ofI .u32 167772160:UInt32)=167772160:=rfl;have e2:(ofI .u32 0:UInt32)=0:=rfl;rw [e1,e2];refine fun _=>Zcey exU false _ (by decide) (by decide) rfl ⟨by decide,by decide,by decide,by decide⟩ ?_
  rw [Zcnz];refine fun _ _=>Zbwl _ false _ (by decide) ?_
  rw [Zcmf];refine fun _=>ifT rfl fun _=>?_;unfold Zpz;refine fun _=>ifT rfl (ifT rfl (ifT rfl ⟨by decide,AtN.of rfl fun _=>ifT rfl ⟨by decide,AtN.of rfl fun _ _=>?_⟩⟩))
  simp only [Zfi];refine Zcbi 167772160 8 _ ?_;rw [Zcpe];exact fun _=>h
end Go.Proofs.YthdffaojeghaeaaGreatDoor
set_option maxRecDepth 100000
namespace Go.Proofs.YthdffaojeghaeaaGreatDoor
open Go.Sh
theorem Zbkj (s t:List Pf) (K:Bool->Prop) (hl:s.length <= 9223372036854775807) (h:K (s==t)):Zpm s t K:=by
  unfold Zpm;refine IfB.intro (fun h1=>of_eq h (Zzs h1)) (fun h1=>?_);have h1:=Zrp h1;refine Zk.over s (fun pre=>((pre.length:Int),())) (fun pre=>pre=t.take pre.length) rfl rfl (fun pre x post hp hn hP next hx=>?_) (fun hP next _=>?_)
  . intro _;dsimp only [Zbdp];have hlt:pre.length<t.length:=by omega
    refine ifT (decide_eq_true (by omega)) ⟨by omega,AtN.of (Zcf hp) fun _=>⟨by omega,AtN.of (at_len hlt) fun _=>?_⟩⟩
    refine IfB.intro (fun g=>of_eq h (mism hp (List.getElem?_eq_getElem hlt) fun e=>?_)) (fun g=>of_eq (hx ?_) ?_);rw [e] at g;simp at g;refine Zru hP ?_;rw [List.getElem?_eq_getElem hlt];congr 1;simp at g;exact (Prod.ext (UInt32.toNat_inj.1 (by omega)) g.2).symm
    . rw [Ze (by omega) (by omega)];simp
  dsimp only [Zbdp];exact ifF (decide_eq_false (by omega)) (of_eq h (Zoy hP h1))
end Go.Proofs.YthdffaojeghaeaaGreatDoor
end
section
set_option maxRecDepth 100000
namespace Go.Proofs.YthdffaojeghaeaaGreatDoor
open Go.Sh
theorem Zbsw (b:List UInt8) (K:List Pf->Bool->Prop) (hl:b.length <= 1000000000) (h:K (allF (Zu b)).1 (allF (Zu b)).2):Zly b K:=by refine Zbzt b K hl ?_;unfold pxT;unfold allF at h;split;rename_i hc;rw [if_pos hc] at h;exact h;rename_i hc;rw [if_neg hc] at h;exact h
theorem Zbbj (x y:UInt8) (r:List UInt8) (K:Int->Prop) (h:K ((x.toNat*256+y.toNat:Nat):Int)):Zlz (x::y::r) K:=by
  have hx:=UInt8.toNat_lt x;have hy:=UInt8.toNat_lt y;unfold Zlz;refine ⟨by decide,AtN.of rfl fun _=>⟨by decide,AtN.of rfl fun _=>of_eq h ?_⟩⟩
  rw [Ze (n:=(x.toNat:Int)) (by omega) (by omega),Ze (n:=(y.toNat:Int)) (by omega) (by omega),Ze (n:=256*(x.toNat:Int)) (by omega) (by omega),Ze (by omega) (by omega)]
  omega
theorem Zbqf (x y:UInt8) (r:List UInt8):Zen (x::y::r)=if x.toNat*256+y.toNat <= r.length then some (r.take (x.toNat*256+y.toNat),r.drop (x.toNat*256+y.toNat)) else none:=rfl
theorem Zcmr {r:List UInt8} (h:r.length<2):Zen r=none:=by
  match r,h with
  | [],_=>rfl
  | [_],_=>rfl
theorem Zcna {four:Bool} {b:List UInt8} (h:Zen b=none):Zfa four b=(Zjs,(3,1,[]),false):=by unfold Zfa;rw [h]
theorem Zbpo {four:Bool} {b w r:List UInt8} (h:Zen b=some (w,r)) (h2:Zen r=none):Zfa four b=(Zjs,(3,1,[]),false):=by unfold Zfa;rw [h];simp only [h2]
theorem Zccr (b:List UInt8) (four:Bool) (K:Upd->Int×Int×List UInt8->Bool->Prop) (hl:b.length <= 100000) (h:K (Zfa four b).1 (Zfa four b).2.1 (Zfa four b).2.2):Zwj b four K:=by
  have bad:Zfa four b=(Zjs,(3,1,[]),false)->Zop b four true K:=fun e=>by rw [e] at h;unfold Zop Zki;simp only [Zfi];exact ifT rfl fun _ _=>h
  have short:(∀w r,Zen b=some (w,r)->r.length<2)->Zfa four b=(Zjs,(3,1,[]),false):=fun hs=>by
    cases hp:Zen b with
    | none=>exact Zcna hp
    | some q=>obtain ⟨w,r⟩:=q;exact Zbpo hp (Zcmr (hs w r hp))
  unfold Zwj
  match b,hl,h,bad,short with
  | [],_,_,bad,short=>exact ifT rfl (bad (short fun w r e=>by cases e))
  | [_],_,_,bad,short=>exact ifT rfl (bad (short fun w r e=>by cases e))
  | x::y::r0,hl,h,bad,short=>
    have hx:=UInt8.toNat_lt x;have hy:=UInt8.toNat_lt y;have hcl:(x::y::r0).length=r0.length+2:=rfl;rw [hcl] at hl;generalize hn:x.toNat*256+y.toNat=n at*;have hp:Zen (x::y::r0)=if n <= r0.length then some (r0.take n,r0.drop n) else none:=by rw [Zbqf,hn]
    refine IfB.intro (fun h4=>bad (short fun w r e=>?_)) fun h4 _=>Zbbj x y r0 _ fun _=>?_;have h4:=of_decide_eq_true h4;rw [hcl] at h4;rw [hp] at e;split at e;simp only [Option.some.injEq,Prod.mk.injEq] at e;rw [← e.2,List.length_drop];omega;cases e;rw [hn];have h4:=of_decide_eq_false h4;rw [hcl] at h4 ⊢;rw [Ze (by omega) (by omega)]
    by_cases hbig:n+2 <= r0.length
    rotate_left
    . rw [decide_eq_true (by omega)]
      refine bad (short fun w r e=>?_);rw [hp] at e;split at e;simp only [Option.some.injEq,Prod.mk.injEq] at e;rw [← e.2,List.length_drop];omega;cases e
    rw [decide_eq_false (by omega)]
    rw [if_pos (by omega)] at hp
    unfold Zop;refine ifF rfl fun _=>Zbbj x y r0 _ fun _=>?_;rw [hn,Ze (n:=2+(n:Int)) (by omega) (by omega)]
    have e2:((2+(n:Int)).toNat)=n+2:=by omega
    have ed:(x::y::r0).drop (n+2)=r0.drop n:=rfl;simp only [e2,ed,hcl];refine ⟨by omega,by omega,?_⟩
    have hrl:(r0.drop n).length=r0.length - n:=List.length_drop;generalize hr:r0.drop n=r at*
    match r,hr,hrl,hp with
    | [],_,hrl,_=>simp at hrl;omega
    | [_],_,hrl,_=>simp at hrl;omega
    | x2::y2::t0,hr,hrl,hp=>
      have hx2:=UInt8.toNat_lt x2;have hy2:=UInt8.toNat_lt y2;have hcl2:(x2::y2::t0).length=t0.length+2:=rfl;rw [hcl2] at hrl;refine fun _=>Zbbj x2 y2 t0 _ fun _=>?_;generalize hm:x2.toNat*256+y2.toNat=m at*;have hp2:Zen (x2::y2::t0)=if m <= t0.length then some (t0.take m,t0.drop m) else none:=by rw [Zbqf,hm]
      rw [Ze (n:=2+(m:Int)) (by omega) (by omega)]
      have e3:((2+(m:Int)).toNat)=m+2:=by omega
      have ed2:(x2::y2::t0).drop (m+2)=t0.drop m:=rfl;have et2:((x2::y2::t0).take (m+2)).drop 2=t0.take m:=rfl;simp only [e3,ed2,et2,hcl2];rw [Ze (n:=((t0.length+2:Nat):Int) - 2) (by omega) (by omega)]
      by_cases hbig2:m <= t0.length
      rotate_left
      . rw [if_neg hbig2] at hp2;rw [Zbpo hp hp2] at h;refine ifT (decide_eq_true (by omega)) ?_
        unfold Zki;simp only [Zfi];exact fun _ _=>h
      rw [if_pos hbig2] at hp2;refine ifF (decide_eq_false (by omega)) ⟨by omega,by omega,by omega,by omega,?_⟩
      have etold:decide (((t0.length+2:Nat):Int)>2+(m:Int))=decide (0<(t0.drop m).length):=by
        rw [List.length_drop];by_cases hc:m<t0.length;rw [decide_eq_true (by omega),decide_eq_true (by omega)]
        rw [decide_eq_false (by omega),decide_eq_false (by omega)]
      rw [etold];have etw:((x::y::r0).take (n+2)).drop 2=r0.take n:=rfl;try simp only [etw]
      unfold Zfa at h;simp only [hp,hp2] at h;have lw:(r0.take n).length <= 100000:=by rw [List.length_take];omega
      have lt:(t0.drop m).length <= 100000:=by rw [List.length_drop];omega
      have lx:(t0.take m).length <= 100000:=by rw [List.length_take];omega
      generalize r0.take n=w at*;generalize t0.drop m=t at*;refine fun _=>⟨lx,fun _=>?_⟩;generalize Zbp four (decide (0<t.length)) (t0.take m)=q at*;have p1:=Ztb w;have p2:=Ztb t;refine IfB.intro (fun g=>?_) fun g=>?_
      . have g:(q.2.1:Int)=3:=by simpa using g
        rw [if_pos (by omega)] at h
        exact h
      have g: ¬(q.2.1:Int)=3:=by simpa using g
      rw [if_neg (by omega)] at h
      refine ⟨by omega,by omega,by omega,by omega,fun _=>Zbsw w _ (by omega) fun _=>⟨by omega,by omega,fun _=>Zbsw t _ (by omega) fun _=>?_⟩⟩
      have no: ¬((allF (Zu w)).2=true∧(allF (Zu t)).2=true)->Zqv q.1 (q.2.1:Int) (allF (Zu w)).1 (allF (Zu t)).1 true K:=fun hb=>by rw [if_neg hb] at h;unfold Zqv Zki;simp only [Zfi];exact ifT rfl fun _ _=>h
      refine IfB.intro (fun g1=>no fun e=>by rw [e.1] at g1;cases g1) fun g1=>?_
      have g1:(allF (Zu w)).2=true:=by simpa using g1
      cases g2:(allF (Zu t)).2 with
      | false=>exact no fun e=>by rw [g2] at e;exact absurd e.2 (by decide)
      | true=>
        rw [if_pos ⟨g1,g2⟩] at h;unfold Zqv;refine ifF rfl (IfB.intro (fun g3=>?_) fun g3=>?_)
        . have g3:(q.2.1:Int)=2:=by simpa using g3
          rw [if_pos (by omega)] at h
          refine ⟨by omega,?_⟩
          unfold Zzh Zyy;simp only [Zfi];rw [g3];exact ifT rfl h
        . have g3: ¬(q.2.1:Int)=2:=by simpa using g3
          rw [if_neg (by omega)] at h
          unfold Zzh Zyy;simp only [Zfi];refine IfB.intro (fun g4=>?_) fun g4=>?_
          . have g4:(allF (Zu t)).1.length=0:=by have:=eq_of_beq g4;omega
            rw [if_neg (by omega)] at h
            rw [List.eq_nil_of_length_eq_zero g4];exact h
          . have g4:0<(allF (Zu t)).1.length:=by
              have: ¬((allF (Zu t)).1.length:Int)=0:=by simpa using g4
              omega
            rw [if_pos g4] at h;exact h
theorem Zchi (b:List UInt8) (four:Bool):Zbeu b four fun r=>r=true:=by
  unfold Zbeu;simp only [Zfi];have e:(min (b.length:Int) 1500).toNat=min b.length 1500:=by omega
  rw [e];have hl:(b.take (min b.length 1500)).length <= 100000:=by rw [List.length_take];omega
  generalize b.take (min b.length 1500)=c at*;refine ⟨by omega,by omega,fun _=>⟨by simp only [List.length_nil];omega,fun _ _=>?_⟩⟩
  rw [List.nil_append];refine Zbwl c four _ hl fun hw _=>Zccr c four _ hl fun _ _=>?_;generalize Zfa four c=u at*;have hw1:WfT [Kd.lst [Kd.int .u32,Kd.int .i64],Kd.lst [Kd.int .u32,Kd.int .i64],Kd.int .i64,Kd.lst [Kd.bool,Kd.lst [Kd.int .u32]],Kd.int .u32,Kd.bool,Kd.int .u32,Kd.bool,Kd.int .u32,Kd.bool,Kd.bool,Kd.int .u32,Kd.int .u32,Kd.lst [Kd.int .u32],Kd.lst [Kd.int .i64,Kd.lst [Kd.int .u8]],Kd.int .i64] u.1:=hw.1;simp only [WfT,WfE] at hw1;have h1:u.1.1.length <= 9223372036854775807:=hw1.1.1;have h2:u.1.2.1.length <= 9223372036854775807:=hw1.2.1.1;have h3:(Zio u.1).path.length <= 9223372036854775807:=hw1.2.2.2.1.1;have h4: ∀x∈(Zio u.1).path,x.2.length <= 9223372036854775807:=fun x hx=>(hw1.2.2.2.1.2 x hx).2.1.1;have h5:(Zio u.1).comms.length <= 9223372036854775807:=hw1.2.2.2.2.2.2.2.2.2.2.2.2.2.1.1;have h6:(Zio u.1).others.length <= 9223372036854775807:=hw1.2.2.2.2.2.2.2.2.2.2.2.2.2.2.1.1;have same: ∀K:Bool->Prop,K true->Zuw u.1 u.1 K:=fun K hk=>by unfold Zuw;simp only [Zfi];refine fun _=>Zbkj _ _ _ h1 fun _=>?_;rw [beq_self_eq_true];refine ifT rfl fun _=>Zbkj _ _ _ h2 fun _=>?_;rw [beq_self_eq_true];refine ifT rfl fun _=>Zcfu (Zio u.1) (Zio u.1) _ h3 h4 h5 h6 fun _=>?_;rw [Zcaz];refine ifT rfl (of_eq hk ?_);simp
  refine same _ fun _=>ifT rfl (ifT (by simp) (ifT (by simp) fun _=>?_))
  unfold Zpz;refine fun _=>ifT (by simp) (ifT (by simp) fun _=>Zcjn _ fun _=>rfl)
end Go.Proofs.YthdffaojeghaeaaGreatDoor
end
