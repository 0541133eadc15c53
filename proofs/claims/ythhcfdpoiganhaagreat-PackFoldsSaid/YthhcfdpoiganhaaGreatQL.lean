/-
 Putting attributes (the document):never reached by this law (its contract's condition is false).
-/
import Derived.Test.YthhcfdpoiganhaaGreatRB
import Derived.Test.YthhcfdpoiganhaaGreatBA
set_option linter.all false
section
namespace Go.Proofs.YthhcfdpoiganhaaGreat
open Go.Sh
abbrev _root_.Prod.q {α β γ δ ε:Type} (x:α×β×γ×δ×ε):ε:=x.2.2.2.2
abbrev Zbjw:List Pk:=[Pk.agg ksAt,Pk.bool]
abbrev Zbni:List Pk:=[Pk.lst [Kd.int .u8],Pk.int .i64]
def Zbko (a:Za) (four:Bool) (K:List UInt8->Int->Prop):Prop:=False
theorem Zcmc:FnQ Tryz.prog Zbig Zbjw Zbni (fun x K=>Zbko x.1 x.2.1 (fun r0 r1=>K (r0,r1,()))):=
 Zciz rfl (fun _=>rfl) fun x K hx=>False.elim hx
noncomputable def Zbun:Ct:=Zbq Zbjw Zbni (fun x K=>Zbko x.1 x.2.1 (fun r0 r1=>K (r0,r1,())))
theorem Zcpe:Zk Tryz.prog Zbig Zbun:=Zbt Zcmc
end Go.Proofs.YthhcfdpoiganhaaGreat
end
section
set_option maxRecDepth 100000
set_option maxHeartbeats 4000000
namespace Go.Proofs.YthhcfdpoiganhaaGreat
open Go.Sh
abbrev TyL1:=UInt32×Int×Int×List (Bool×List UInt32)×UInt32×Bool×UInt32×Bool×UInt32×Bool×Bool×UInt32×UInt32×List UInt32×List (Int×List UInt8)×Bool
abbrev TyL2:=Int×List (Bool×List UInt32)×UInt32×Bool×UInt32×Bool×UInt32×Bool×Bool×UInt32×UInt32×List UInt32×List (Int×List UInt8)
abbrev TyL3:=Int×List (Bool×List UInt32)×UInt32×Bool×UInt32×Bool×UInt32×Bool×Bool×UInt32×UInt32×List UInt32×List (Int×List UInt8)×Int
abbrev Zcu:PPlan:=⟨[],[],[],[],[],[]⟩
abbrev Zmq:List Kd:=[Kd.int .u32,Kd.int .i64]
abbrev ks_7:List Kd:=[Kd.int .u32,Kd.int .i64,Kd.int .i64,Kd.lst [Kd.bool,Kd.lst [Kd.int .u32]],Kd.int .u32,Kd.bool,Kd.int .u32,Kd.bool,Kd.int .u32,Kd.bool,Kd.bool,Kd.int .u32,Kd.int .u32,Kd.lst [Kd.int .u32],Kd.lst [Kd.int .i64,Kd.lst [Kd.int .u8]],Kd.bool]
abbrev ks_8:List Kd:=[Kd.lst [Kd.int .u32,Kd.int .i64,Kd.int .i64,Kd.lst [Kd.bool,Kd.lst [Kd.int .u32]],Kd.int .u32,Kd.bool,Kd.int .u32,Kd.bool,Kd.int .u32,Kd.bool,Kd.bool,Kd.int .u32,Kd.int .u32,Kd.lst [Kd.int .u32],Kd.lst [Kd.int .i64,Kd.lst [Kd.int .u8]],Kd.bool]]
theorem Zdai:Known Tryz.prog Zjr Tryz.f62 Zcu.plan (Zg Tryz.f62):=by refine ⟨Tryz.func62,?_,?_,?_,?_,?_⟩<;>kernel_rfl
abbrev Zbce:List Pk:=[Pk.int .u32,Pk.int .i64]
abbrev Zbfd:List Pk:=[Pk.int .u32]
def Zwj (a0:Int) (n1:Int) (K:Int->Prop):Prop:=
 (0:Int) <= (IntKind.wrap .i64 (32 - n1))∧
 K (Zub .u32 a0 (IntKind.wrap .u32 (IntKind.wrap .u64 ((IntKind.wrap .u64 (1*(2^(min ((IntKind.wrap .i64 (32 - n1)):Int).toNat (IntKind.bits .u64))))) - 1))))
noncomputable def Zdbn:Tab:=⟨[],[]⟩
abbrev Zccd (x:PkTs Zbce) (K:PkTs Zbfd->Prop):Prop:=Zwj x.1 x.2.1 (fun r0=>K (r0,()))
theorem Zdoz:FnQ Tryz.prog Zjr Zbce Zbfd Zccd:=(Zm Zdai (tab:=Zdbn) ⟨trivial,trivial⟩ rfl).of_eq (by kernel_rfl)
noncomputable def Zcht:Ct:=ctRd Zbce Zbfd Zccd
theorem Zdan:Zk Tryz.prog Zjr Zcht:=Zbk Zdoz
def Zder:PPlan:=⟨[(1,[0,1,2,3,4,5,6,7,8,9,10,11,12,14,15,13,16,17,18],[18])],[],[],[],[],[]⟩
theorem Zcvc:Known Tryz.prog Zst Tryz.f33 Zder.plan (Zg Tryz.f33):=by refine ⟨Tryz.func33,?_,?_,?_,?_,?_⟩<;>kernel_rfl
abbrev Zry:List Pk:=[Pk.agg [Kd.int .u32,Kd.int .i64]]
abbrev Zvn:List Pk:=[Pk.bool]
def Ztf (p0:UInt32×Int) (K:Bool->Prop):Prop:=
 IfB (decide ((p0.2:Int)≥0))
 (IfB (decide ((p0.2:Int) <= 32))
 ((WfPs Zbce ((p0.1.toNat:Int),p0.2,())->
 Zwj (p0.1.toNat:Int) p0.2 (fun x16=>
 WfPs Zbfd (x16,())->
 K ((x16:Int)==(p0.1.toNat:Int)))))
 (K false))
 (K false)
noncomputable def Zczj:Tab:=⟨[(Zjr,Zcht)],[]⟩
abbrev Zcak (x:PkTs Zry) (K:PkTs Zvn->Prop):Prop:=Ztf x.1 (fun r0=>K (r0,()))
theorem Zcvm:FnQ Tryz.prog Zst Zry Zvn Zcak:=(Zm Zcvc (tab:=Zczj) ⟨⟨Zdan,trivial⟩,trivial⟩ rfl).of_eq (by kernel_rfl)
noncomputable def Zbkc:Ct:=ctRd Zry Zvn Zcak
theorem Zbud:Zk Tryz.prog Zst Zbkc:=Zbk Zcvm
theorem Zcxr:Known Tryz.prog Zbcn Tryz.f16 Zcu.plan (Zg Tryz.f16):=by refine ⟨Tryz.func16,?_,?_,?_,?_,?_⟩<;>kernel_rfl
abbrev Zxa:List Pk:=[Pk.agg [Kd.int .u32,Kd.int .i64,Kd.int .i64,Kd.lst [Kd.bool,Kd.lst [Kd.int .u32]],Kd.int .u32,Kd.bool,Kd.int .u32,Kd.bool,Kd.int .u32,Kd.bool,Kd.bool,Kd.int .u32,Kd.int .u32,Kd.lst [Kd.int .u32],Kd.lst [Kd.int .i64,Kd.lst [Kd.int .u8]],Kd.bool]]
abbrev Zbgg:List Pk:=[Pk.bool]
def Zbew (c0:TyL1) (K:Bool->Prop):Prop:=
 (WfPs Zry ((((ofI .u32 (c0.1.toNat:Int)),c0.2.1):UInt32×Int),())->
 Ztf (((ofI .u32 (c0.1.toNat:Int)),c0.2.1):UInt32×Int) (fun x5=>
 WfPs Zvn (x5,())->
 IfB x5
 (IfB (!c0.q.q.q.2.2.2)
 (K true)
 ((WfPs Zqy (((c0.2.2.1,c0.2.2.2.1,(ofI .u32 (c0.q.1.toNat:Int)),c0.q.2.1,(ofI .u32 (c0.q.2.2.1.toNat:Int)),c0.q.2.2.2.1,(ofI .u32 (c0.q.q.1.toNat:Int)),c0.q.q.2.1,c0.q.q.2.2.1,(ofI .u32 (c0.q.q.2.2.2.1.toNat:Int)),(ofI .u32 (c0.q.q.q.1.toNat:Int)),c0.q.q.q.2.1,c0.q.q.q.2.2.1):TyL2),())->
 Zue ((c0.2.2.1,c0.2.2.2.1,(ofI .u32 (c0.q.1.toNat:Int)),c0.q.2.1,(ofI .u32 (c0.q.2.2.1.toNat:Int)),c0.q.2.2.2.1,(ofI .u32 (c0.q.q.1.toNat:Int)),c0.q.q.2.1,c0.q.q.2.2.1,(ofI .u32 (c0.q.q.2.2.2.1.toNat:Int)),(ofI .u32 (c0.q.q.q.1.toNat:Int)),c0.q.q.q.2.1,c0.q.q.q.2.2.1):TyL2) (fun x13=>
 WfPs Zsb (x13,())->
 K ((x13:Int)==0)))))
 (K false)))
noncomputable def Zcqs:Tab:=⟨[(Zst,Zbkc),(Zpt,Zbkd)],[]⟩
abbrev Zcbx (x:PkTs Zxa) (K:PkTs Zbgg->Prop):Prop:=Zbew x.1 (fun r0=>K (r0,()))
theorem Zcmz:FnQ Tryz.prog Zbcn Zxa Zbgg Zcbx:=(Zm Zcxr (tab:=Zcqs) ⟨⟨Zbud,Zbuu,trivial⟩,trivial⟩ rfl).of_eq (by kernel_rfl)
noncomputable def Zcda:Ct:=ctRd Zxa Zbgg Zcbx
theorem Zcpa:Zk Tryz.prog Zbcn Zcda:=Zbk Zcmz
theorem Zcps:Known Tryz.prog Zbpo Tryz.f17 Zcu.plan (Zg Tryz.f17):=by refine ⟨Tryz.func17,?_,?_,?_,?_,?_⟩<;>kernel_rfl
noncomputable def Zczp:Tab:=⟨[],[]⟩
noncomputable def Zbsu:Ct:=Zlu Tryz.prog Zczp Zcu (Zg Tryz.f17) Tryz.f17.ntmps Tryz.f17.results.toList
theorem Zdfn:Zk Tryz.prog Zbpo Zbsu:=Zuw Zcps ⟨trivial,trivial⟩
theorem Zcyu:Known Tryz.prog Zld Tryz.f87 Zcu.plan (Zg Tryz.f87):=by refine ⟨Tryz.func87,?_,?_,?_,?_,?_⟩<;>kernel_rfl
abbrev Zxb:List Pk:=[Pk.int .i64]
abbrev Zbff:List Pk:=[Pk.int .i64]
def Zzc (n0:Int) (K:Int->Prop):Prop:=
 (8:Int)≠0∧
 K (IntKind.wrap .i64 (Int.tdiv (IntKind.wrap .i64 ((IntKind.wrap .i64 (n0+8)) - 1)) 8))
noncomputable def Zcpm:Tab:=⟨[],[]⟩
abbrev Zcaf (x:PkTs Zxb) (K:PkTs Zbff->Prop):Prop:=Zzc x.1 (fun r0=>K (r0,()))
theorem Zdgu:FnQ Tryz.prog Zld Zxb Zbff Zcaf:=(Zm Zcyu (tab:=Zcpm) ⟨trivial,trivial⟩ rfl).of_eq (by kernel_rfl)
noncomputable def Zbuo:Ct:=ctRd Zxb Zbff Zcaf
theorem Zdou:Zk Tryz.prog Zld Zbuo:=Zbk Zdgu
def Zcel:PLoop:=⟨[(4,PK.row Zcf [Kd.int .u8]),(10,PK.int .i64)],[8,9],[]⟩
def Zcix:PLoop:=⟨[(4,PK.row Zcf [Kd.int .u8]),(26,PK.int .i64)],[6,8,9,10,25],[]⟩
def Zdng:PPlan:=⟨[],[(3,Zcel),(9,Zcix)],[],[],[],[]⟩
theorem Zcsf:Known Tryz.prog Zwq Tryz.f66 Zdng.plan (Zg Tryz.f66):=by refine ⟨Tryz.func66,?_,?_,?_,?_,?_⟩<;>kernel_rfl
abbrev Zsu:List Pk:=[Pk.lst [Kd.int .u32,Kd.int .i64]]
abbrev Zqr:List Pk:=[Pk.own Zcf [Kd.int .u8],Pk.bool]
def Zbic (x12:UInt32×Int) (l0:List (UInt32×Int)) (x10:Int) (x25:Int) (next3:(List UInt8×Int×Unit)->Prop) (b4_1:List UInt8) (x26:Int) (next9:(List UInt8×Int×Unit)->Prop) (K:List UInt8->Bool->Prop):Prop:=
 IfB (decide ((x26:Int)<x25))
 ((0:Int) <= (IntKind.wrap .i64 (24 - (IntKind.wrap .i64 (8*x26))))∧
 b4_1.length+([(ofI .u8 (IntKind.wrap .u8 (Int.fdiv (x12.1.toNat:Int) (2^(min ((IntKind.wrap .i64 (24 - (IntKind.wrap .i64 (8*x26)))):Int).toNat (IntKind.bits .u32))))))]:List UInt8).length <= 140737488355232∧
 next9 ((b4_1++([(ofI .u8 (IntKind.wrap .u8 (Int.fdiv (x12.1.toNat:Int) (2^(min ((IntKind.wrap .i64 (24 - (IntKind.wrap .i64 (8*x26)))):Int).toNat (IntKind.bits .u32))))))]:List UInt8)),(IntKind.wrap .i64 (x26+1)),()))
 (next3 (b4_1,(IntKind.wrap .i64 (x10+1)),()))
def Zbmg (l0:List (UInt32×Int)) (b4:List UInt8) (x10:Int) (next3:(List UInt8×Int×Unit)->Prop) (K:List UInt8->Bool->Prop):Prop:=
 IfB (decide ((x10:Int)<(l0.length:Int)))
 ((0:Int) <= x10∧AtN l0 x10.toNat fun x12=>
 WfT Zmq x12->
 (WfPs Zry ((((ofI .u32 (x12.1.toNat:Int)),x12.2):UInt32×Int),())->
 Ztf (((ofI .u32 (x12.1.toNat:Int)),x12.2):UInt32×Int) (fun x15=>
 WfPs Zvn (x15,())->
 IfB (!x15)
 (K ([]:List UInt8) false)
 (b4.length+([(ofI .u8 (IntKind.wrap .u8 x12.2))]:List UInt8).length <= 140737488355232∧
 (WfPs Zxb (x12.2,())->
 Zzc x12.2 (fun x25=>
 WfPs Zbff (x25,())->
 Zl (List UInt8×Int×Unit) ((b4++([(ofI .u8 (IntKind.wrap .u8 x12.2))]:List UInt8)),(0:Int),()) fun y next=>
 WfY Zcix.kinds y->
 Zbic x12 l0 x10 x25 next3 y.1 y.2.1 next K))))))
 (K b4 true)
def Zvl (l0:List (UInt32×Int)) (K:List UInt8->Bool->Prop):Prop:=
 Zl (List UInt8×Int×Unit) (([]:List UInt8),(0:Int),()) fun y next=>
 WfY Zcel.kinds y->
 Zbmg l0 y.1 y.2.1 next K
noncomputable def Zczu:Tab:=⟨[(Zst,Zbkc),(Zld,Zbuo)],[]⟩
abbrev Zbwi (x:PkTs Zsu) (K:PkTs Zqr->Prop):Prop:=Zvl x.1 (fun r0 r1=>K (r0,r1,()))
theorem Zdbt:FnQ Tryz.prog Zwq Zsu Zqr Zbwi:=(Zm Zcsf (tab:=Zczu) ⟨⟨Zbud,Zdou,trivial⟩,trivial⟩ rfl).of_eq (by kernel_rfl)
noncomputable def Zbxi:Ct:=Zbq Zsu Zqr Zbwi
theorem Zdmc:Zk Tryz.prog Zwq Zbxi:=Zbt Zdbt
theorem Zczy:Known Tryz.prog Zban Tryz.f67 Zcu.plan (Zg Tryz.f67):=by refine ⟨Tryz.func67,?_,?_,?_,?_,?_⟩<;>kernel_rfl
abbrev Zvd:List Pk:=[Pk.lst [Kd.int .u8]]
abbrev Zsn:List Pk:=[Pk.own Zcf [Kd.int .u8]]
def Zql (b0:List UInt8) (K:List UInt8->Prop):Prop:=
 (0:Int) <= 8∧
 (WfPs Zlc (([([(ofI .u8 (IntKind.wrap .u8 (Int.fdiv (b0.length:Int) 256))),(ofI .u8 (IntKind.wrap .u8 (b0.length:Int)))]:List UInt8),b0]:List (List UInt8)),())->
 Zka ([([(ofI .u8 (IntKind.wrap .u8 (Int.fdiv (b0.length:Int) 256))),(ofI .u8 (IntKind.wrap .u8 (b0.length:Int)))]:List UInt8),b0]:List (List UInt8)) (fun x13=>
 WfPs Zkk (x13,())->
 K x13))
noncomputable def Zdbi:Tab:=⟨[(Zju,Zne)],[]⟩
abbrev Zbxj (x:PkTs Zvd) (K:PkTs Zsn->Prop):Prop:=Zql x.1 (fun r0=>K (r0,()))
theorem Zcqb:FnQ Tryz.prog Zban Zvd Zsn Zbxj:=(Zm Zczy (tab:=Zdbi) ⟨⟨Ztc,trivial⟩,trivial⟩ rfl).of_eq (by kernel_rfl)
noncomputable def Zbvz:Ct:=Zbq Zvd Zsn Zbxj
theorem Zdak:Zk Tryz.prog Zban Zbvz:=Zbt Zcqb
theorem Zdge:Known Tryz.prog Zxr Tryz.f37 Zcu.plan (Zg Tryz.f37):=by refine ⟨Tryz.func37,?_,?_,?_,?_,?_⟩<;>kernel_rfl
abbrev Zbag:List Pk:=[Pk.agg [Kd.lst [Kd.int .u32,Kd.int .i64],Kd.lst [Kd.int .u32,Kd.int .i64],Kd.int .i64,Kd.lst [Kd.bool,Kd.lst [Kd.int .u32]],Kd.int .u32,Kd.bool,Kd.int .u32,Kd.bool,Kd.int .u32,Kd.bool,Kd.bool,Kd.int .u32,Kd.int .u32,Kd.lst [Kd.int .u32],Kd.lst [Kd.int .i64,Kd.lst [Kd.int .u8]],Kd.int .i64],Pk.bool]
abbrev Zws:List Pk:=[Pk.own Zcf [Kd.int .u8],Pk.int .i64]
def Zbfx (x16r0:List UInt8) (x22r0:List UInt8) (j2:List UInt8) (K:List UInt8->Int->Prop):Prop:=
 IfB (decide (((IntKind.wrap .i64 ((IntKind.wrap .i64 ((IntKind.wrap .i64 ((x16r0.length:Int)+(j2.length:Int)))+(x22r0.length:Int)))+4)):Int)>4077))
 (K ([]:List UInt8) 3)
 ((WfPs Zvd (x16r0,())->
 Zql x16r0 (fun x57=>
 WfPs Zsn (x57,())->
 (WfPs Zvd (j2,())->
 Zql j2 (fun x59=>
 WfPs Zsn (x59,())->
 (WfPs Zlc (([x57,x59,x22r0]:List (List UInt8)),())->
 Zka ([x57,x59,x22r0]:List (List UInt8)) (fun x62=>
 WfPs Zkk (x62,())->
 K x62 0)))))))
def Zbbo (four1:Bool) (u0:List (UInt32×Int)×List (UInt32×Int)×TyL3) (x16r0:List UInt8) (x22r0:List UInt8) (j19:Bool) (K:List UInt8->Int->Prop):Prop:=
 IfB j19
 (K ([]:List UInt8) 2)
 (IfB (decide (((u0.2.1.length:Int):Int)>0))
 ((WfPs Zvm (((u0.2.2.1,u0.2.2.2.1,(ofI .u32 (u0.q.1.toNat:Int)),u0.q.2.1,(ofI .u32 (u0.q.2.2.1.toNat:Int)),u0.q.2.2.2.1,(ofI .u32 (u0.q.q.1.toNat:Int)),u0.q.q.2.1,u0.q.q.2.2.1,(ofI .u32 (u0.q.q.2.2.2.1.toNat:Int)),(ofI .u32 (u0.q.q.q.1.toNat:Int)),u0.q.q.q.2.1,u0.q.q.q.2.2.1):TyL2),four1,())->
 Zrt ((u0.2.2.1,u0.2.2.2.1,(ofI .u32 (u0.q.1.toNat:Int)),u0.q.2.1,(ofI .u32 (u0.q.2.2.1.toNat:Int)),u0.q.2.2.2.1,(ofI .u32 (u0.q.q.1.toNat:Int)),u0.q.q.2.1,u0.q.q.2.2.1,(ofI .u32 (u0.q.q.2.2.2.1.toNat:Int)),(ofI .u32 (u0.q.q.q.1.toNat:Int)),u0.q.q.q.2.1,u0.q.q.q.2.2.1):TyL2) four1 (fun x39r0 x39r1=>
 WfPs Zqc (x39r0,x39r1,())->
 IfB ((x39r1:Int) !=0)
 (K ([]:List UInt8) x39r1)
 (Zbfx x16r0 x22r0 x39r0 K))))
 (Zbfx x16r0 x22r0 ([]:List UInt8) K))
def Zbgs (u0:List (UInt32×Int)×List (UInt32×Int)×TyL3) (four1:Bool) (K:List UInt8->Int->Prop):Prop:=
 (WfPs Zsu (u0.1,())->
 Zvl u0.1 (fun x16r0 x16r1=>
 WfPs Zqr (x16r0,x16r1,())->
 (WfPs Zsu (u0.2.1,())->
 Zvl u0.2.1 (fun x22r0 x22r1=>
 WfPs Zqr (x22r0,x22r1,())->
 IfB (!x16r1)
 (Zbbo four1 u0 x16r0 x22r0 true K)
 (Zbbo four1 u0 x16r0 x22r0 (!x22r1) K)))))
noncomputable def Zcuw:Tab:=⟨[(Zrz,Zbjt),(Zju,Zne),(Zwq,Zbxi),(Zban,Zbvz)],[]⟩
abbrev Zbus (x:PkTs Zbag) (K:PkTs Zws->Prop):Prop:=Zbgs x.1 x.2.1 (fun r0 r1=>K (r0,r1,()))
theorem Zdlg:FnQ Tryz.prog Zxr Zbag Zws Zbus:=(Zm Zdge (tab:=Zcuw) ⟨⟨Zbry,Ztc,Zdmc,Zdak,trivial⟩,trivial⟩ rfl).of_eq (by kernel_rfl)
noncomputable def Zckg:Ct:=Zbq Zbag Zws Zbus
theorem Zctq:Zk Tryz.prog Zxr Zckg:=Zbt Zdlg
def Zcse:PPlan:=⟨[],[],[],[],[(3,17)],[]⟩
theorem Zdcm:Known Tryz.prog Zqs Tryz.f47 Zcse.plan (Zg Tryz.f47):=by refine ⟨Tryz.func47,?_,?_,?_,?_,?_⟩<;>kernel_rfl
abbrev Zvq:List Pk:=[]
abbrev Zug:List Pk:=[Pk.agg [Kd.int .u8,Kd.int .u8,Kd.int .u8,Kd.int .u8,Kd.int .u8,Kd.int .u8,Kd.int .u8,Kd.int .u8,Kd.int .u8,Kd.int .u8,Kd.int .u8,Kd.int .u8,Kd.int .u8,Kd.int .u8,Kd.int .u8,Kd.int .u8]]
def Zpn (K:(UInt8×UInt8×UInt8×UInt8×UInt8×UInt8×UInt8×UInt8×UInt8×UInt8×UInt8×UInt8×UInt8×UInt8×UInt8×UInt8)->Prop):Prop:=
 K ((ofI .u8 255),(ofI .u8 255),(ofI .u8 255),(ofI .u8 255),(ofI .u8 255),(ofI .u8 255),(ofI .u8 255),(ofI .u8 255),(ofI .u8 255),(ofI .u8 255),(ofI .u8 255),(ofI .u8 255),(ofI .u8 255),(ofI .u8 255),(ofI .u8 255),(ofI .u8 255))
noncomputable def Zcww:Tab:=⟨[],[]⟩
abbrev Zcab (x:PkTs Zvq) (K:PkTs Zug->Prop):Prop:=Zpn (fun r0=>K (r0,()))
theorem Zdfl:FnQ Tryz.prog Zqs Zvq Zug Zcab:=(Zm Zdcm (tab:=Zcww) ⟨trivial,trivial⟩ rfl).of_eq (by kernel_rfl)
noncomputable def Zbof:Ct:=Zbq Zvq Zug Zcab
theorem Zcja:Zk Tryz.prog Zqs Zbof:=Zbt Zdfl
theorem Zdnn:Known Tryz.prog Zqf Tryz.f49 Zcu.plan (Zg Tryz.f49):=by refine ⟨Tryz.func49,?_,?_,?_,?_,?_⟩<;>kernel_rfl
abbrev Zvp:List Pk:=[Pk.int .i64]
abbrev Ztz:List Pk:=[Pk.int .i64,Pk.int .i64,Pk.bool]
def Zpb (kind0:Int) (K:Int->Int->Bool->Prop):Prop:=
 IfB ((kind0:Int)==1)
 (K 29 4096 true)
 (IfB ((kind0:Int)==2)
 (K 23 4096 true)
 (IfB ((kind0:Int)==3)
 (K 21 4096 true)
 (IfB ((kind0:Int)==4)
 (K 19 19 true)
 (IfB ((kind0:Int)==5)
 (K 23 23 true)
 (K 0 0 false)))))
noncomputable def Zctb:Tab:=⟨[],[]⟩
abbrev Zbvm (x:PkTs Zvp) (K:PkTs Ztz->Prop):Prop:=Zpb x.1 (fun r0 r1 r2=>K (r0,r1,r2,()))
theorem Zdmh:FnQ Tryz.prog Zqf Zvp Ztz Zbvm:=(Zm Zdnn (tab:=Zctb) ⟨trivial,trivial⟩ rfl).of_eq (by kernel_rfl)
noncomputable def Zbke:Ct:=ctRd Zvp Ztz Zbvm
theorem Zcct:Zk Tryz.prog Zqf Zbke:=Zbk Zdmh
theorem Zczt:Known Tryz.prog Zrl Tryz.f50 Zcu.plan (Zg Tryz.f50):=by refine ⟨Tryz.func50,?_,?_,?_,?_,?_⟩<;>kernel_rfl
abbrev Zsz:List Pk:=[Pk.int .i64,Pk.int .i64]
abbrev Zsg:List Pk:=[Pk.bool]
def Zmr (kind0:Int) (n1:Int) (K:Bool->Prop):Prop:=
 (WfPs Zvp (kind0,())->
 Zpb kind0 (fun x10r0 x10r1 x10r2=>
 WfPs Ztz (x10r0,x10r1,x10r2,())->
 IfB x10r2
 (IfB (decide ((n1:Int)≥x10r0))
 (K (decide ((n1:Int) <= x10r1)))
 (K false))
 (K false)))
noncomputable def Zcyo:Tab:=⟨[(Zqf,Zbke)],[]⟩
abbrev Zbws (x:PkTs Zsz) (K:PkTs Zsg->Prop):Prop:=Zmr x.1 x.2.1 (fun r0=>K (r0,()))
theorem Zcyz:FnQ Tryz.prog Zrl Zsz Zsg Zbws:=(Zm Zczt (tab:=Zcyo) ⟨⟨Zcct,trivial⟩,trivial⟩ rfl).of_eq (by kernel_rfl)
noncomputable def Zbii:Ct:=ctRd Zsz Zsg Zbws
theorem Zcam:Zk Tryz.prog Zrl Zbii:=Zbk Zcyz
def Zdeb:PPlan:=⟨[],[],[23],[],[],[]⟩
theorem Zdbq:Known Tryz.prog Zbgp Tryz.f38 Zdeb.plan (Zg Tryz.f38):=by refine ⟨Tryz.func38,?_,?_,?_,?_,?_⟩<;>kernel_rfl
abbrev Zbct:List Pk:=[Pk.int .i64,Pk.lst [Kd.int .u8]]
abbrev Zbem:List Pk:=[Pk.own Zcf [Kd.int .u8],Pk.int .i64]
def Zwr (kind0:Int) (body1:List UInt8) (j2:Bool) (K:List UInt8->Int->Prop):Prop:=
 IfB j2
 (K ([]:List UInt8) 2)
 ((WfPs Zvq (())->
 Zpn (fun x19=>
 WfPs Zug (x19,())->
 (0:Int) <= 8∧
 (WfPs Zlc (([([(ofI .u8 (x19.1.toNat:Int)),(ofI .u8 (x19.2.1.toNat:Int)),(ofI .u8 (x19.2.2.1.toNat:Int)),(ofI .u8 (x19.2.2.2.1.toNat:Int)),(ofI .u8 (x19.q.1.toNat:Int)),(ofI .u8 (x19.q.2.1.toNat:Int)),(ofI .u8 (x19.q.2.2.1.toNat:Int)),(ofI .u8 (x19.q.2.2.2.1.toNat:Int)),(ofI .u8 (x19.q.q.1.toNat:Int)),(ofI .u8 (x19.q.q.2.1.toNat:Int)),(ofI .u8 (x19.q.q.2.2.1.toNat:Int)),(ofI .u8 (x19.q.q.2.2.2.1.toNat:Int)),(ofI .u8 (x19.q.q.q.1.toNat:Int)),(ofI .u8 (x19.q.q.q.2.1.toNat:Int)),(ofI .u8 (x19.q.q.q.2.2.1.toNat:Int)),(ofI .u8 (x19.q.q.q.2.2.2.toNat:Int))]:List UInt8),([(ofI .u8 (IntKind.wrap .u8 (Int.fdiv (IntKind.wrap .i64 (19+(body1.length:Int))) 256))),(ofI .u8 (IntKind.wrap .u8 (IntKind.wrap .i64 (19+(body1.length:Int))))),(ofI .u8 (IntKind.wrap .u8 kind0))]:List UInt8),body1]:List (List UInt8)),())->
 Zka ([([(ofI .u8 (x19.1.toNat:Int)),(ofI .u8 (x19.2.1.toNat:Int)),(ofI .u8 (x19.2.2.1.toNat:Int)),(ofI .u8 (x19.2.2.2.1.toNat:Int)),(ofI .u8 (x19.q.1.toNat:Int)),(ofI .u8 (x19.q.2.1.toNat:Int)),(ofI .u8 (x19.q.2.2.1.toNat:Int)),(ofI .u8 (x19.q.2.2.2.1.toNat:Int)),(ofI .u8 (x19.q.q.1.toNat:Int)),(ofI .u8 (x19.q.q.2.1.toNat:Int)),(ofI .u8 (x19.q.q.2.2.1.toNat:Int)),(ofI .u8 (x19.q.q.2.2.2.1.toNat:Int)),(ofI .u8 (x19.q.q.q.1.toNat:Int)),(ofI .u8 (x19.q.q.q.2.1.toNat:Int)),(ofI .u8 (x19.q.q.q.2.2.1.toNat:Int)),(ofI .u8 (x19.q.q.q.2.2.2.toNat:Int))]:List UInt8),([(ofI .u8 (IntKind.wrap .u8 (Int.fdiv (IntKind.wrap .i64 (19+(body1.length:Int))) 256))),(ofI .u8 (IntKind.wrap .u8 (IntKind.wrap .i64 (19+(body1.length:Int))))),(ofI .u8 (IntKind.wrap .u8 kind0))]:List UInt8),body1]:List (List UInt8)) (fun x34=>
 WfPs Zkk (x34,())->
 K x34 0)))))
def Zbdf (kind0:Int) (body1:List UInt8) (K:List UInt8->Int->Prop):Prop:=
 IfB (decide (((body1.length:Int):Int)>4096))
 (Zwr kind0 body1 true K)
 ((WfPs Zsz (kind0,(IntKind.wrap .i64 (19+(body1.length:Int))),())->
 Zmr kind0 (IntKind.wrap .i64 (19+(body1.length:Int))) (fun x16=>
 WfPs Zsg (x16,())->
 Zwr kind0 body1 (!x16) K)))
noncomputable def Zczw:Tab:=⟨[(Zju,Zne),(Zqs,Zbof),(Zrl,Zbii)],[]⟩
abbrev Zbro (x:PkTs Zbct) (K:PkTs Zbem->Prop):Prop:=Zbdf x.1 x.2.1 (fun r0 r1=>K (r0,r1,()))
theorem Zdkx:FnQ Tryz.prog Zbgp Zbct Zbem Zbro:=(Zm Zdbq (tab:=Zczw) ⟨⟨Ztc,Zcja,Zcam,trivial⟩,trivial⟩ rfl).of_eq (by kernel_rfl)
noncomputable def Zchl:Ct:=Zbq Zbct Zbem Zbro
theorem Zdox:Zk Tryz.prog Zbgp Zchl:=Zbt Zdkx
theorem Zcnn:Known Tryz.prog Zrx Tryz.f18 Zcu.plan (Zg Tryz.f18):=by refine ⟨Tryz.func18,?_,?_,?_,?_,?_⟩<;>kernel_rfl
abbrev Zol:List Pk:=[Pk.agg [Kd.lst [Kd.int .u32,Kd.int .i64],Kd.lst [Kd.int .u32,Kd.int .i64],Kd.int .i64,Kd.lst [Kd.bool,Kd.lst [Kd.int .u32]],Kd.int .u32,Kd.bool,Kd.int .u32,Kd.bool,Kd.int .u32,Kd.bool,Kd.bool,Kd.int .u32,Kd.int .u32,Kd.lst [Kd.int .u32],Kd.lst [Kd.int .i64,Kd.lst [Kd.int .u8]],Kd.int .i64],Pk.bool]
abbrev Zoo:List Pk:=[Pk.own Zcf [Kd.int .u8]]
def Znb (u0:List (UInt32×Int)×List (UInt32×Int)×TyL3) (four1:Bool) (K:List UInt8->Prop):Prop:=
 (WfPs Zbag (((u0.1,u0.2.1,u0.2.2.1,u0.2.2.2.1,(ofI .u32 (u0.q.1.toNat:Int)),u0.q.2.1,(ofI .u32 (u0.q.2.2.1.toNat:Int)),u0.q.2.2.2.1,(ofI .u32 (u0.q.q.1.toNat:Int)),u0.q.q.2.1,u0.q.q.2.2.1,(ofI .u32 (u0.q.q.2.2.2.1.toNat:Int)),(ofI .u32 (u0.q.q.q.1.toNat:Int)),u0.q.q.q.2.1,u0.q.q.q.2.2.1,u0.q.q.q.2.2.2):List (UInt32×Int)×List (UInt32×Int)×TyL3),four1,())->
 Zbgs ((u0.1,u0.2.1,u0.2.2.1,u0.2.2.2.1,(ofI .u32 (u0.q.1.toNat:Int)),u0.q.2.1,(ofI .u32 (u0.q.2.2.1.toNat:Int)),u0.q.2.2.2.1,(ofI .u32 (u0.q.q.1.toNat:Int)),u0.q.q.2.1,u0.q.q.2.2.1,(ofI .u32 (u0.q.q.2.2.2.1.toNat:Int)),(ofI .u32 (u0.q.q.q.1.toNat:Int)),u0.q.q.q.2.1,u0.q.q.q.2.2.1,u0.q.q.q.2.2.2):List (UInt32×Int)×List (UInt32×Int)×TyL3) four1 (fun x12r0 x12r1=>
 WfPs Zws (x12r0,x12r1,())->
 (WfPs Zbct ((2:Int),x12r0,())->
 Zbdf (2:Int) x12r0 (fun x17r0 x17r1=>
 WfPs Zbem (x17r0,x17r1,())->
 K x17r0))))
noncomputable def Zcny:Tab:=⟨[(Zxr,Zckg),(Zbgp,Zchl)],[]⟩
abbrev Zbrp (x:PkTs Zol) (K:PkTs Zoo->Prop):Prop:=Znb x.1 x.2.1 (fun r0=>K (r0,()))
theorem Zcra:FnQ Tryz.prog Zrx Zol Zoo Zbrp:=(Zm Zcnn (tab:=Zcny) ⟨⟨Zctq,Zdox,trivial⟩,trivial⟩ rfl).of_eq (by kernel_rfl)
noncomputable def Zbnx:Ct:=Zbq Zol Zoo Zbrp
theorem Zbsd:Zk Tryz.prog Zrx Zbnx:=Zbt Zcra
def Zced:PLoop:=⟨[(6,PK.row Zbr [Kd.int .u32,Kd.int .i64,Kd.int .i64,Kd.lst [Kd.bool,Kd.lst [Kd.int .u32]],Kd.int .u32,Kd.bool,Kd.int .u32,Kd.bool,Kd.int .u32,Kd.bool,Kd.bool,Kd.int .u32,Kd.int .u32,Kd.lst [Kd.int .u32],Kd.lst [Kd.int .i64,Kd.lst [Kd.int .u8]],Kd.bool]),(7,PK.row Zbr [Kd.int .u32,Kd.int .i64,Kd.int .i64,Kd.lst [Kd.bool,Kd.lst [Kd.int .u32]],Kd.int .u32,Kd.bool,Kd.int .u32,Kd.bool,Kd.int .u32,Kd.bool,Kd.bool,Kd.int .u32,Kd.int .u32,Kd.lst [Kd.int .u32],Kd.lst [Kd.int .i64,Kd.lst [Kd.int .u8]],Kd.bool]),(20,PK.int .i64)],[3,18,19],[]⟩
def Zcld:PLoop:=⟨[(53,PK.int .i64)],[3,10,51,52],[(10,[PK.row Zmn [Kd.lst [Kd.int .u8]]])]⟩
def Zblg:PLoop:=⟨[],[3,7,10],[(10,[PK.row Zmn [Kd.lst [Kd.int .u8]]])]⟩
def Zbnk:PLoop:=⟨[],[3,10,14,51,52,53],[(10,[PK.row Zmn [Kd.lst [Kd.int .u8]]])]⟩
def Zcvb:PPlan:=⟨[(14,[0,1,2,3,4,5,6,7],[43]),(22,[0,1,2,3,4,5,6,7,8],[73])],[(3,Zced),(16,Zcld),(4000013,Zblg),(4000021,Zbnk)],[],[],[],[]⟩
theorem Zddt:Known Tryz.prog Ztd Tryz.f6 Zcvb.plan (Zg Tryz.f6):=by refine ⟨Tryz.func6,?_,?_,?_,?_,?_⟩<;>kernel_rfl
abbrev Zuh:List Pk:=[Pk.lst [Kd.int .u32,Kd.int .i64,Kd.int .i64,Kd.lst [Kd.bool,Kd.lst [Kd.int .u32]],Kd.int .u32,Kd.bool,Kd.int .u32,Kd.bool,Kd.int .u32,Kd.bool,Kd.bool,Kd.int .u32,Kd.int .u32,Kd.lst [Kd.int .u32],Kd.lst [Kd.int .i64,Kd.lst [Kd.int .u8]],Kd.bool],Pk.bool]
abbrev Ztb:List Pk:=[Pk.own Zmn [Kd.lst [Kd.int .u8]],Pk.int .i64]
def Zyj (four1:Bool) (l0:List (TyL1)) (x20:Int) (next3:(List (TyL1)×List (TyL1)×Int×Unit)->Prop) (j1:List (TyL1)) (j2:List (TyL1)) (K:List (List UInt8)->Int->Prop):Prop:=
 next3 (j1,j2,(IntKind.wrap .i64 (x20+1)),())
def Zbto (four1:Bool) (x58:TyL1) (x51:List (List (TyL1))) (x53:Int) (next16:(Int×List (List UInt8)×Unit)->Prop) (c0_2:List (List UInt8)) (K:List (List UInt8)->Int->Prop):Prop:=
 next16 ((IntKind.wrap .i64 (x53+1)),c0_2,())
def Zcll (four1:Bool) (x58:TyL1) (x51:List (List (TyL1))) (x53:Int) (next16:(Int×List (List UInt8)×Unit)->Prop) (c0_3:List (List UInt8)) (x72:List (UInt32×Int)) (next4000021:(List (List UInt8)×Unit)->Prop) (K:List (List UInt8)->Int->Prop):Prop:=
 (WfPs Zol (((([]:List (UInt32×Int)),x72,x58.2.2.1,x58.2.2.2.1,(ofI .u32 (x58.q.1.toNat:Int)),x58.q.2.1,(ofI .u32 (x58.q.2.2.1.toNat:Int)),x58.q.2.2.2.1,(ofI .u32 (x58.q.q.1.toNat:Int)),x58.q.q.2.1,x58.q.q.2.2.1,(ofI .u32 (x58.q.q.2.2.2.1.toNat:Int)),(ofI .u32 (x58.q.q.q.1.toNat:Int)),x58.q.q.q.2.1,x58.q.q.q.2.2.1,0):List (UInt32×Int)×List (UInt32×Int)×TyL3),four1,())->
 Znb ((([]:List (UInt32×Int)),x72,x58.2.2.1,x58.2.2.2.1,(ofI .u32 (x58.q.1.toNat:Int)),x58.q.2.1,(ofI .u32 (x58.q.2.2.1.toNat:Int)),x58.q.2.2.2.1,(ofI .u32 (x58.q.q.1.toNat:Int)),x58.q.q.2.1,x58.q.q.2.2.1,(ofI .u32 (x58.q.q.2.2.2.1.toNat:Int)),(ofI .u32 (x58.q.q.q.1.toNat:Int)),x58.q.q.q.2.1,x58.q.q.q.2.2.1,0):List (UInt32×Int)×List (UInt32×Int)×TyL3) four1 (fun x78=>
 WfPs Zoo (x78,())->
 c0_3.length+([x78]:List (List UInt8)).length <= 5864062014709∧
 next4000021 ((c0_3++([x78]:List (List UInt8))),())))
def Zbih (four1:Bool) (x51:List (List (TyL1))) (x53:Int) (c0_1:List (List UInt8)) (next16:(Int×List (List UInt8)×Unit)->Prop) (K:List (List UInt8)->Int->Prop):Prop:=
 IfB (decide ((x53:Int)<(x51.length:Int)))
 ((0:Int) <= x53∧AtN x51 x53.toNat fun x55=>
 WfT ks_8 x55->
 (0:Int) <= 0∧AtN x55 0 fun x58=>
 WfT ks_7 x58->
 (WfPs Zvm (((x58.2.2.1,x58.2.2.2.1,(ofI .u32 (x58.q.1.toNat:Int)),x58.q.2.1,(ofI .u32 (x58.q.2.2.1.toNat:Int)),x58.q.2.2.2.1,(ofI .u32 (x58.q.q.1.toNat:Int)),x58.q.q.2.1,x58.q.q.2.2.1,(ofI .u32 (x58.q.q.2.2.2.1.toNat:Int)),(ofI .u32 (x58.q.q.q.1.toNat:Int)),x58.q.q.q.2.1,x58.q.q.q.2.2.1):TyL2),four1,())->
 Zrt ((x58.2.2.1,x58.2.2.2.1,(ofI .u32 (x58.q.1.toNat:Int)),x58.q.2.1,(ofI .u32 (x58.q.2.2.1.toNat:Int)),x58.q.2.2.2.1,(ofI .u32 (x58.q.q.1.toNat:Int)),x58.q.q.2.1,x58.q.q.2.2.1,(ofI .u32 (x58.q.q.2.2.2.1.toNat:Int)),(ofI .u32 (x58.q.q.q.1.toNat:Int)),x58.q.q.q.2.1,x58.q.q.q.2.2.1):TyL2) four1 (fun x64r0 x64r1=>
 WfPs Zqc (x64r0,x64r1,())->
 Zee.pre (x55,(IntKind.wrap .i64 (4073 - (x64r0.length:Int))),())∧
 Zdv (fun (y:(List (List UInt8)×Unit))=>WfY Zbnk.kinds y->Zbto four1 x58 x51 x53 next16 y.1 K)
 (fun (y:(List (List UInt8)×Unit)) (x:(List (UInt32×Int)×Unit)) (next:(List (List UInt8)×Unit)->Prop)=>WfY Zbnk.kinds y->WfPs Zee.ps x->Zcll four1 x58 x51 x53 next16 y.1 x.1 next K) (Zee.xs (x55,(IntKind.wrap .i64 (4073 - (x64r0.length:Int))),())) (c0_1,()))))
 (K c0_1 0)
def Zbrt (four1:Bool) (told7:List (TyL1)) (c0:List (List UInt8)) (K:List (List UInt8)->Int->Prop):Prop:=
 (WfPs Zbnn (told7,(),())->
 Zboq told7 (fun x51=>
 WfPs Zbnt (x51,())->
 Zl (Int×List (List UInt8)×Unit) ((0:Int),c0,()) fun y next=>
 WfY Zcld.kinds y->
 Zbih four1 x51 y.1 y.2.1 next K))
def Zckq (four1:Bool) (told7:List (TyL1)) (c0_4:List (List UInt8)) (x42:List (UInt32×Int)) (next4000013:(List (List UInt8)×Unit)->Prop) (K:List (List UInt8)->Int->Prop):Prop:=
 (WfPs Zol (((x42,([]:List (UInt32×Int)),0,([]:List (Bool×List UInt32)),(ofI .u32 0),false,(ofI .u32 0),false,(ofI .u32 0),false,false,(ofI .u32 0),(ofI .u32 0),([]:List UInt32),([]:List (Int×List UInt8)),0):List (UInt32×Int)×List (UInt32×Int)×TyL3),four1,())->
 Znb ((x42,([]:List (UInt32×Int)),0,([]:List (Bool×List UInt32)),(ofI .u32 0),false,(ofI .u32 0),false,(ofI .u32 0),false,false,(ofI .u32 0),(ofI .u32 0),([]:List UInt32),([]:List (Int×List UInt8)),0):List (UInt32×Int)×List (UInt32×Int)×TyL3) four1 (fun x47=>
 WfPs Zoo (x47,())->
 c0_4.length+([x47]:List (List UInt8)).length <= 5864062014709∧
 next4000013 ((c0_4++([x47]:List (List UInt8))),())))
def Zbim (four1:Bool) (l0:List (TyL1)) (gone6:List (TyL1)) (told7:List (TyL1)) (x20:Int) (next3:(List (TyL1)×List (TyL1)×Int×Unit)->Prop) (K:List (List UInt8)->Int->Prop):Prop:=
 IfB (decide ((x20:Int)<(l0.length:Int)))
 ((0:Int) <= x20∧AtN l0 x20.toNat fun x22=>
 WfT ks_7 x22->
 (WfPs Zxa ((((ofI .u32 (x22.1.toNat:Int)),x22.2.1,x22.2.2.1,x22.2.2.2.1,(ofI .u32 (x22.q.1.toNat:Int)),x22.q.2.1,(ofI .u32 (x22.q.2.2.1.toNat:Int)),x22.q.2.2.2.1,(ofI .u32 (x22.q.q.1.toNat:Int)),x22.q.q.2.1,x22.q.q.2.2.1,(ofI .u32 (x22.q.q.2.2.2.1.toNat:Int)),(ofI .u32 (x22.q.q.q.1.toNat:Int)),x22.q.q.q.2.1,x22.q.q.q.2.2.1,x22.q.q.q.2.2.2):TyL1),())->
 Zbew (((ofI .u32 (x22.1.toNat:Int)),x22.2.1,x22.2.2.1,x22.2.2.2.1,(ofI .u32 (x22.q.1.toNat:Int)),x22.q.2.1,(ofI .u32 (x22.q.2.2.1.toNat:Int)),x22.q.2.2.2.1,(ofI .u32 (x22.q.q.1.toNat:Int)),x22.q.q.2.1,x22.q.q.2.2.1,(ofI .u32 (x22.q.q.2.2.2.1.toNat:Int)),(ofI .u32 (x22.q.q.q.1.toNat:Int)),x22.q.q.q.2.1,x22.q.q.q.2.2.1,x22.q.q.q.2.2.2):TyL1) (fun x30=>
 WfPs Zbgg (x30,())->
 IfB (!x30)
 (K ([]:List (List UInt8)) 2)
 (IfB x22.q.q.q.2.2.2
 (told7.length+([((ofI .u32 (x22.1.toNat:Int)),x22.2.1,x22.2.2.1,x22.2.2.2.1,(ofI .u32 (x22.q.1.toNat:Int)),x22.q.2.1,(ofI .u32 (x22.q.2.2.1.toNat:Int)),x22.q.2.2.2.1,(ofI .u32 (x22.q.q.1.toNat:Int)),x22.q.q.2.1,x22.q.q.2.2.1,(ofI .u32 (x22.q.q.2.2.2.1.toNat:Int)),(ofI .u32 (x22.q.q.q.1.toNat:Int)),x22.q.q.q.2.1,x22.q.q.q.2.2.1,x22.q.q.q.2.2.2)]:List (TyL1)).length <= 1034834473104∧
 Zyj four1 l0 x20 next3 gone6 (told7++([((ofI .u32 (x22.1.toNat:Int)),x22.2.1,x22.2.2.1,x22.2.2.2.1,(ofI .u32 (x22.q.1.toNat:Int)),x22.q.2.1,(ofI .u32 (x22.q.2.2.1.toNat:Int)),x22.q.2.2.2.1,(ofI .u32 (x22.q.q.1.toNat:Int)),x22.q.q.2.1,x22.q.q.2.2.1,(ofI .u32 (x22.q.q.2.2.2.1.toNat:Int)),(ofI .u32 (x22.q.q.q.1.toNat:Int)),x22.q.q.q.2.1,x22.q.q.q.2.2.1,x22.q.q.q.2.2.2)]:List (TyL1))) K)
 (gone6.length+([((ofI .u32 (x22.1.toNat:Int)),x22.2.1,x22.2.2.1,x22.2.2.2.1,(ofI .u32 (x22.q.1.toNat:Int)),x22.q.2.1,(ofI .u32 (x22.q.2.2.1.toNat:Int)),x22.q.2.2.2.1,(ofI .u32 (x22.q.q.1.toNat:Int)),x22.q.q.2.1,x22.q.q.2.2.1,(ofI .u32 (x22.q.q.2.2.2.1.toNat:Int)),(ofI .u32 (x22.q.q.q.1.toNat:Int)),x22.q.q.q.2.1,x22.q.q.q.2.2.1,x22.q.q.q.2.2.2)]:List (TyL1)).length <= 1034834473104∧
 Zyj four1 l0 x20 next3 (gone6++([((ofI .u32 (x22.1.toNat:Int)),x22.2.1,x22.2.2.1,x22.2.2.2.1,(ofI .u32 (x22.q.1.toNat:Int)),x22.q.2.1,(ofI .u32 (x22.q.2.2.1.toNat:Int)),x22.q.2.2.2.1,(ofI .u32 (x22.q.q.1.toNat:Int)),x22.q.q.2.1,x22.q.q.2.2.1,(ofI .u32 (x22.q.q.2.2.2.1.toNat:Int)),(ofI .u32 (x22.q.q.q.1.toNat:Int)),x22.q.q.q.2.1,x22.q.q.q.2.2.1,x22.q.q.q.2.2.2)]:List (TyL1))) told7 K)))))
 (Zee.pre (gone6,(4073:Int),())∧
 Zdv (fun (y:(List (List UInt8)×Unit))=>WfY Zblg.kinds y->Zbrt four1 told7 y.1 K)
 (fun (y:(List (List UInt8)×Unit)) (x:(List (UInt32×Int)×Unit)) (next:(List (List UInt8)×Unit)->Prop)=>WfY Zblg.kinds y->WfPs Zee.ps x->Zckq four1 told7 y.1 x.1 next K) (Zee.xs (gone6,(4073:Int),())) (([]:List (List UInt8)),()))
def Zux (l0:List (TyL1)) (four1:Bool) (K:List (List UInt8)->Int->Prop):Prop:=
 Zl (List (TyL1)×List (TyL1)×Int×Unit) (([]:List (TyL1)),([]:List (TyL1)),(0:Int),()) fun y next=>
 WfY Zced.kinds y->
 Zbim four1 l0 y.1 y.2.1 y.2.2.1 next K
noncomputable def Zdfh:Tab:=⟨[(Zbcn,Zcda),(Zbpo,Zbsu),(Zrx,Zbnx),(Zob,Zis 1 [(Zgx,Zbtb)]),(Zrz,Zbjt)],[(Zqo,Zee)]⟩
abbrev Zcis (x:PkTs Zuh) (K:PkTs Ztb->Prop):Prop:=Zux x.1 x.2.1 (fun r0 r1=>K (r0,r1,()))
theorem Zcnc:FnQ Tryz.prog Ztd Zuh Ztb Zcis:=(Zm Zddt (tab:=Zdfh) ⟨⟨Zcpa,Zdfn,Zbsd,Zlg ⟨Zdoi,trivial⟩,Zbry,trivial⟩,⟨Zcql,trivial⟩⟩ rfl).of_eq (by kernel_rfl)
noncomputable def Zbqb:Ct:=Zbq Zuh Ztb Zcis
theorem Zbua:Zk Tryz.prog Ztd Zbqb:=Zbt Zcnc
theorem Zdjt:Known Tryz.prog Zbek Tryz.f12 Zcu.plan (Zg Tryz.f12):=by refine ⟨Tryz.func12,?_,?_,?_,?_,?_⟩<;>kernel_rfl
abbrev Zbcg:List Pk:=[Pk.lst [Kd.int .u8],Pk.lst [Kd.int .u8]]
abbrev Zxd:List Pk:=[Pk.bool]
def Zbpx (a0:List UInt8) (b1:List UInt8) (K:Bool->Prop):Prop:=
 K (a0==b1)
noncomputable def Zcnp:Tab:=⟨[],[]⟩
abbrev Zbta (x:PkTs Zbcg) (K:PkTs Zxd->Prop):Prop:=Zbpx x.1 x.2.1 (fun r0=>K (r0,()))
theorem Zcqo:FnQ Tryz.prog Zbek Zbcg Zxd Zbta:=(Zm Zdjt (tab:=Zcnp) ⟨trivial,trivial⟩ rfl).of_eq (by kernel_rfl)
noncomputable def Zcbk:Ct:=ctRd Zbcg Zxd Zbta
theorem Zdfr:Zk Tryz.prog Zbek Zcbk:=Zbk Zcqo
theorem Zdet:Known Tryz.prog Zbgm Tryz.f13 Zcu.plan (Zg Tryz.f13):=by refine ⟨Tryz.func13,?_,?_,?_,?_,?_⟩<;>kernel_rfl
abbrev Zbbl:List Pk:=[]
abbrev Zbdv:List Pk:=[Pk.own Zcf [Kd.int .u8]]
def Zbpt (K:List UInt8->Prop):Prop:=
 (WfPs Zol (((([]:List (UInt32×Int)),([]:List (UInt32×Int)),0,([]:List (Bool×List UInt32)),(ofI .u32 0),false,(ofI .u32 0),false,(ofI .u32 0),false,false,(ofI .u32 0),(ofI .u32 0),([]:List UInt32),([]:List (Int×List UInt8)),0):List (UInt32×Int)×List (UInt32×Int)×TyL3),true,())->
 Znb ((([]:List (UInt32×Int)),([]:List (UInt32×Int)),0,([]:List (Bool×List UInt32)),(ofI .u32 0),false,(ofI .u32 0),false,(ofI .u32 0),false,false,(ofI .u32 0),(ofI .u32 0),([]:List UInt32),([]:List (Int×List UInt8)),0):List (UInt32×Int)×List (UInt32×Int)×TyL3) true (fun x2=>
 WfPs Zoo (x2,())->
 K x2))
noncomputable def Zctl:Tab:=⟨[(Zrx,Zbnx)],[]⟩
abbrev Zceu (x:PkTs Zbbl) (K:PkTs Zbdv->Prop):Prop:=Zbpt (fun r0=>K (r0,()))
theorem Zcrt:FnQ Tryz.prog Zbgm Zbbl Zbdv Zceu:=(Zm Zdet (tab:=Zctl) ⟨⟨Zbsd,trivial⟩,trivial⟩ rfl).of_eq (by kernel_rfl)
noncomputable def Zbyi:Ct:=Zbq Zbbl Zbdv Zceu
theorem Zcua:Zk Tryz.prog Zbgm Zbyi:=Zbt Zcrt
def Zbxl:PLoop:=⟨[(3,PK.int .u64),(4,PK.int .i64)],[],[]⟩
def Zczs:PPlan:=⟨[],[(3,Zbxl)],[],[],[],[]⟩
theorem Zdkj:Known Tryz.prog Zbao Tryz.f110 Zczs.plan (Zg Tryz.f110):=by refine ⟨Tryz.func110,?_,?_,?_,?_,?_⟩<;>kernel_rfl
abbrev Zbfs:List Pk:=[Pk.int .i64]
abbrev Zbgh:List Pk:=[Pk.int .u64]
def Zbnm (s3:Int) (i4:Int) (next3:(Int×Int×Unit)->Prop) (K:Int->Prop):Prop:=
 IfB (decide ((i4:Int)<32))
 (next3 ((IntKind.wrap .u64 (2*s3)),(IntKind.wrap .i64 (i4+1)),()))
 (K s3)
def Zbhr (n0:Int) (K:Int->Prop):Prop:=
 Zl (Int×Int×Unit) ((1:Int),(max n0 0),()) fun y next=>
 WfY Zbxl.kinds y->
 Zbnm y.1 y.2.1 next K
noncomputable def Zcot:Tab:=⟨[],[]⟩
abbrev Zbzm (x:PkTs Zbfs) (K:PkTs Zbgh->Prop):Prop:=Zbhr x.1 (fun r0=>K (r0,()))
theorem Zcpc:FnQ Tryz.prog Zbao Zbfs Zbgh Zbzm:=(Zm Zdkj (tab:=Zcot) ⟨trivial,trivial⟩ rfl).of_eq (by kernel_rfl)
noncomputable def Zbxv:Ct:=ctRd Zbfs Zbgh Zbzm
theorem Zdku:Zk Tryz.prog Zbao Zbxv:=Zbk Zcpc
def Zcsa:PPlan:=⟨[(1,[0,1,2,3,4,5,6,7,8,9,10,11,12,13,14,15,16,17,18],[13])],[],[],[],[],[]⟩
theorem Zctu:Known Tryz.prog Zbeu Tryz.f88 Zcsa.plan (Zg Tryz.f88):=by refine ⟨Tryz.func88,?_,?_,?_,?_,?_⟩<;>kernel_rfl
abbrev Zbhg:List Pk:=[Pk.agg [Kd.int .u32,Kd.int .i64]]
abbrev Zyh:List Pk:=[Pk.bool]
def Zxv (p0:UInt32×Int) (K:Bool->Prop):Prop:=
 IfB (decide ((p0.2:Int)≥0))
 (IfB (decide ((p0.2:Int) <= 32))
 ((WfPs Zbfs (p0.2,())->
 Zbhr p0.2 (fun x17=>
 WfPs Zbgh (x17,())->
 (x17:Int)≠0∧
 K (((Int.tmod (IntKind.wrap .u64 (p0.1.toNat:Int)) x17):Int)==0))))
 (K false))
 (K false)
noncomputable def Zcqj:Tab:=⟨[(Zbao,Zbxv)],[]⟩
abbrev Zcjy (x:PkTs Zbhg) (K:PkTs Zyh->Prop):Prop:=Zxv x.1 (fun r0=>K (r0,()))
theorem Zcvi:FnQ Tryz.prog Zbeu Zbhg Zyh Zcjy:=(Zm Zctu (tab:=Zcqj) ⟨⟨Zdku,trivial⟩,trivial⟩ rfl).of_eq (by kernel_rfl)
noncomputable def Zbue:Ct:=ctRd Zbhg Zyh Zcjy
theorem Zctm:Zk Tryz.prog Zbeu Zbue:=Zbk Zcvi
def Zbzf:PLoop:=⟨[(0,PK.row Zcf [Kd.int .u8]),(6,PK.int .i64)],[1],[]⟩
def Zbzw:PLoop:=⟨[(0,PK.row Zcf [Kd.int .u8]),(7,PK.int .u32),(8,PK.int .i64)],[1,6],[]⟩
def Zdab:PPlan:=⟨[],[(2,Zbzf),(9,Zbzw)],[],[],[],[]⟩
theorem Zdlu:Known Tryz.prog Zbbi Tryz.f58 Zdab.plan (Zg Tryz.f58):=by refine ⟨Tryz.func58,?_,?_,?_,?_,?_⟩<;>kernel_rfl
abbrev Zqn:List Pk:=[Pk.own Zcf [Kd.int .u8],Pk.lst [Kd.int .u32,Kd.int .i64]]
abbrev Zua:List Pk:=[Pk.own Zcf [Kd.int .u8],Pk.bool]
def Zbng (l1:List (UInt32×Int)) (i6:Int) (next2:(List UInt8×Int×Unit)->Prop) (b0_2:List UInt8) (a7:Int) (k8:Int) (next9:(List UInt8×Int×Int×Unit)->Prop) (K:List UInt8->Bool->Prop):Prop:=
 (0:Int) <= i6∧AtN l1 i6.toNat fun x38=>
 WfT Zmq x38->
 (8:Int)≠0∧
 IfB (decide ((k8:Int)<(IntKind.wrap .i64 (Int.tdiv (IntKind.wrap .i64 (x38.2+7)) 8))))
 ((16777216:Int)≠0∧
 b0_2.length+([(ofI .u8 (IntKind.wrap .u8 (IntKind.wrap .u32 (Int.tdiv a7 16777216))))]:List UInt8).length <= 140737488355232∧
 (16777216:Int)≠0∧
 next9 ((b0_2++([(ofI .u8 (IntKind.wrap .u8 (IntKind.wrap .u32 (Int.tdiv a7 16777216))))]:List UInt8)),(IntKind.wrap .u32 ((Int.tmod a7 16777216)*256)),(IntKind.wrap .i64 (k8+1)),()))
 (next2 (b0_2,(IntKind.wrap .i64 (i6+1)),()))
def Zbkg (l1:List (UInt32×Int)) (b0_1:List UInt8) (i6:Int) (next2:(List UInt8×Int×Unit)->Prop) (K:List UInt8->Bool->Prop):Prop:=
 IfB (decide ((i6:Int)<(l1.length:Int)))
 ((0:Int) <= i6∧AtN l1 i6.toNat fun x17=>
 WfT Zmq x17->
 (WfPs Zbhg ((((ofI .u32 (x17.1.toNat:Int)),x17.2):UInt32×Int),())->
 Zxv (((ofI .u32 (x17.1.toNat:Int)),x17.2):UInt32×Int) (fun x19=>
 WfPs Zyh (x19,())->
 IfB (!x19)
 (K ([]:List UInt8) false)
 ((0:Int) <= i6∧AtN l1 i6.toNat fun x24=>
 WfT Zmq x24->
 b0_1.length+([(ofI .u8 (IntKind.wrap .u8 x24.2))]:List UInt8).length <= 140737488355232∧
 (0:Int) <= i6∧AtN l1 i6.toNat fun x32=>
 WfT Zmq x32->
 Zl (List UInt8×Int×Int×Unit) ((b0_1++([(ofI .u8 (IntKind.wrap .u8 x24.2))]:List UInt8)),(x32.1.toNat:Int),(0:Int),()) fun y next=>
 WfY Zbzw.kinds y->
 Zbng l1 i6 next2 y.1 y.2.1 y.2.2.1 next K))))
 (K b0_1 true)
def Zpy (b0:List UInt8) (l1:List (UInt32×Int)) (K:List UInt8->Bool->Prop):Prop:=
 Zl (List UInt8×Int×Unit) (b0,(0:Int),()) fun y next=>
 WfY Zbzf.kinds y->
 Zbkg l1 y.1 y.2.1 next K
noncomputable def Zcos:Tab:=⟨[(Zbeu,Zbue)],[]⟩
abbrev Zccv (x:PkTs Zqn) (K:PkTs Zua->Prop):Prop:=Zpy x.1 x.2.1 (fun r0 r1=>K (r0,r1,()))
theorem Zcpq:FnQ Tryz.prog Zbbi Zqn Zua Zccv:=(Zm Zdlu (tab:=Zcos) ⟨⟨Zctm,trivial⟩,trivial⟩ rfl).of_eq (by kernel_rfl)
noncomputable def Zbza:Ct:=Zbq Zqn Zua Zccv
theorem Zcqv:Zk Tryz.prog Zbbi Zbza:=Zbt Zcpq
theorem Zcxj:Known Tryz.prog Zbdn Tryz.f60 Zcu.plan (Zg Tryz.f60):=by refine ⟨Tryz.func60,?_,?_,?_,?_,?_⟩<;>kernel_rfl
abbrev Zvo:List Pk:=[Pk.int .i64]
abbrev Ztu:List Pk:=[Pk.own Zcf [Kd.int .u8]]
def Zrm (n0:Int) (K:List UInt8->Prop):Prop:=
 (256:Int)≠0∧
 (256:Int)≠0∧
 (256:Int)≠0∧
 K ([(ofI .u8 (IntKind.wrap .u8 (Int.tmod (IntKind.wrap .i64 (Int.tdiv n0 256)) 256))),(ofI .u8 (IntKind.wrap .u8 (Int.tmod n0 256)))]:List UInt8)
noncomputable def Zdix:Tab:=⟨[],[]⟩
abbrev Zcgb (x:PkTs Zvo) (K:PkTs Ztu->Prop):Prop:=Zrm x.1 (fun r0=>K (r0,()))
theorem Zdgn:FnQ Tryz.prog Zbdn Zvo Ztu Zcgb:=(Zm Zcxj (tab:=Zdix) ⟨trivial,trivial⟩ rfl).of_eq (by kernel_rfl)
noncomputable def Zceb:Ct:=Zbq Zvo Ztu Zcgb
theorem Zdch:Zk Tryz.prog Zbdn Zceb:=Zbt Zdgn
theorem Zdjv:Known Tryz.prog Zbbt Tryz.f30 Zcu.plan (Zg Tryz.f30):=by refine ⟨Tryz.func30,?_,?_,?_,?_,?_⟩<;>kernel_rfl
abbrev Zbfm:List Pk:=[Pk.agg [Kd.lst [Kd.int .u32,Kd.int .i64],Kd.lst [Kd.int .u32,Kd.int .i64],Kd.int .i64,Kd.lst [Kd.bool,Kd.lst [Kd.int .u32]],Kd.int .u32,Kd.bool,Kd.int .u32,Kd.bool,Kd.int .u32,Kd.bool,Kd.bool,Kd.int .u32,Kd.int .u32,Kd.lst [Kd.int .u32],Kd.lst [Kd.int .i64,Kd.lst [Kd.int .u8]],Kd.int .i64],Pk.bool]
abbrev Zbar:List Pk:=[Pk.own Zcf [Kd.int .u8],Pk.int .i64]
def Zzm (x17r0:List UInt8) (x23r0:List UInt8) (j2:List UInt8) (K:List UInt8->Int->Prop):Prop:=
 IfB (decide (((IntKind.wrap .i64 ((IntKind.wrap .i64 ((x17r0.length:Int)+(j2.length:Int)))+(x23r0.length:Int))):Int)>4073))
 (K ([]:List UInt8) 3)
 ((WfPs Zvo ((x17r0.length:Int),())->
 Zrm (x17r0.length:Int) (fun x58=>
 WfPs Ztu (x58,())->
 x58.length+x17r0.length <= 140737488355232∧
 (WfPs Zvo ((j2.length:Int),())->
 Zrm (j2.length:Int) (fun x64=>
 WfPs Ztu (x64,())->
 (x58++x17r0).length+x64.length <= 140737488355232∧
 ((x58++x17r0)++x64).length+j2.length <= 140737488355232∧
 (((x58++x17r0)++x64)++j2).length+x23r0.length <= 140737488355232∧
 K ((((x58++x17r0)++x64)++j2)++x23r0) 0)))))
def Zbfk (four1:Bool) (u0:List (UInt32×Int)×List (UInt32×Int)×TyL3) (x17r0:List UInt8) (x23r0:List UInt8) (j19:Bool) (K:List UInt8->Int->Prop):Prop:=
 IfB j19
 (K ([]:List UInt8) 2)
 (IfB (decide (((u0.2.1.length:Int):Int)>0))
 ((WfPs Zbjw (((u0.2.2.1,u0.2.2.2.1,(ofI .u32 (u0.q.1.toNat:Int)),u0.q.2.1,(ofI .u32 (u0.q.2.2.1.toNat:Int)),u0.q.2.2.2.1,(ofI .u32 (u0.q.q.1.toNat:Int)),u0.q.q.2.1,u0.q.q.2.2.1,(ofI .u32 (u0.q.q.2.2.2.1.toNat:Int)),(ofI .u32 (u0.q.q.q.1.toNat:Int)),u0.q.q.q.2.1,u0.q.q.q.2.2.1):TyL2),four1,())->
 Zbko ((u0.2.2.1,u0.2.2.2.1,(ofI .u32 (u0.q.1.toNat:Int)),u0.q.2.1,(ofI .u32 (u0.q.2.2.1.toNat:Int)),u0.q.2.2.2.1,(ofI .u32 (u0.q.q.1.toNat:Int)),u0.q.q.2.1,u0.q.q.2.2.1,(ofI .u32 (u0.q.q.2.2.2.1.toNat:Int)),(ofI .u32 (u0.q.q.q.1.toNat:Int)),u0.q.q.q.2.1,u0.q.q.q.2.2.1):TyL2) four1 (fun x41r0 x41r1=>
 WfPs Zbni (x41r0,x41r1,())->
 IfB ((x41r1:Int) !=0)
 (K ([]:List UInt8) 2)
 (Zzm x17r0 x23r0 x41r0 K))))
 (Zzm x17r0 x23r0 ([]:List UInt8) K))
def Zxw (u0:List (UInt32×Int)×List (UInt32×Int)×TyL3) (four1:Bool) (K:List UInt8->Int->Prop):Prop:=
 (WfPs Zqn (([]:List UInt8),u0.1,())->
 Zpy ([]:List UInt8) u0.1 (fun x17r0 x17r1=>
 WfPs Zua (x17r0,x17r1,())->
 (WfPs Zqn (([]:List UInt8),u0.2.1,())->
 Zpy ([]:List UInt8) u0.2.1 (fun x23r0 x23r1=>
 WfPs Zua (x23r0,x23r1,())->
 IfB (!x17r1)
 (Zbfk four1 u0 x17r0 x23r0 true K)
 (Zbfk four1 u0 x17r0 x23r0 (!x23r1) K)))))
noncomputable def Zcwv:Tab:=⟨[(Zbbi,Zbza),(Zbig,Zbun),(Zbdn,Zceb)],[]⟩
abbrev Zbyg (x:PkTs Zbfm) (K:PkTs Zbar->Prop):Prop:=Zxw x.1 x.2.1 (fun r0 r1=>K (r0,r1,()))
theorem Zdir:FnQ Tryz.prog Zbbt Zbfm Zbar Zbyg:=(Zm Zdjv (tab:=Zcwv) ⟨⟨Zcqv,Zcpe,Zdch,trivial⟩,trivial⟩ rfl).of_eq (by kernel_rfl)
noncomputable def Zcdm:Ct:=Zbq Zbfm Zbar Zbyg
theorem Zcrm:Zk Tryz.prog Zbbt Zcdm:=Zbt Zdir
theorem Zcpl:Known Tryz.prog Zzl Tryz.f61 Zcu.plan (Zg Tryz.f61):=by refine ⟨Tryz.func61,?_,?_,?_,?_,?_⟩<;>kernel_rfl
abbrev Zyg:List Pk:=[Pk.int .i64,Pk.int .i64]
abbrev Ztw:List Pk:=[Pk.bool]
def Zzx (kind0:Int) (n1:Int) (j2:Bool) (K:Bool->Prop):Prop:=
 IfB j2
 (K false)
 (IfB ((kind0:Int)==1)
 (K (decide ((n1:Int)≥29)))
 (IfB ((kind0:Int)==2)
 (K (decide ((n1:Int)≥23)))
 (IfB ((kind0:Int)==3)
 (K (decide ((n1:Int)≥21)))
 (IfB ((kind0:Int)==4)
 (K ((n1:Int)==19))
 (IfB ((kind0:Int)==5)
 (K ((n1:Int)==23))
 (K false))))))
def Zbiu (kind0:Int) (n1:Int) (K:Bool->Prop):Prop:=
 IfB (decide ((n1:Int)<19))
 (Zzx kind0 n1 true K)
 (Zzx kind0 n1 (decide ((n1:Int)>4096)) K)
noncomputable def Zcur:Tab:=⟨[],[]⟩
abbrev Zbuw (x:PkTs Zyg) (K:PkTs Ztw->Prop):Prop:=Zbiu x.1 x.2.1 (fun r0=>K (r0,()))
theorem Zczd:FnQ Tryz.prog Zzl Zyg Ztw Zbuw:=(Zm Zcpl (tab:=Zcur) ⟨trivial,trivial⟩ rfl).of_eq (by kernel_rfl)
noncomputable def Zbyo:Ct:=ctRd Zyg Ztw Zbuw
theorem Zdov:Zk Tryz.prog Zzl Zbyo:=Zbk Zczd
def Zcfl:PLoop:=⟨[(6,PK.row Zcf [Kd.int .u8]),(7,PK.int .i64)],[0,1],[]⟩
def Zcxh:PPlan:=⟨[],[(5,Zcfl)],[],[],[],[]⟩
theorem Zcya:Known Tryz.prog Zbfi Tryz.f31 Zcxh.plan (Zg Tryz.f31):=by refine ⟨Tryz.func31,?_,?_,?_,?_,?_⟩<;>kernel_rfl
abbrev Zbfz:List Pk:=[Pk.int .i64,Pk.lst [Kd.int .u8]]
abbrev Zbfr:List Pk:=[Pk.own Zcf [Kd.int .u8],Pk.int .i64]
def Zbio (kind0:Int) (body1:List UInt8) (out6:List UInt8) (i7:Int) (next5:(List UInt8×Int×Unit)->Prop) (K:List UInt8->Int->Prop):Prop:=
 IfB (decide ((i7:Int)<16))
 (out6.length+([(ofI .u8 255)]:List UInt8).length <= 140737488355232∧
 next5 ((out6++([(ofI .u8 255)]:List UInt8)),(IntKind.wrap .i64 (i7+1)),()))
 ((256:Int)≠0∧
 (256:Int)≠0∧
 out6.length+([(ofI .u8 (IntKind.wrap .u8 (IntKind.wrap .i64 (Int.tdiv (IntKind.wrap .i64 (19+(body1.length:Int))) 256)))),(ofI .u8 (IntKind.wrap .u8 (Int.tmod (IntKind.wrap .i64 (19+(body1.length:Int))) 256))),(ofI .u8 (IntKind.wrap .u8 kind0))]:List UInt8).length <= 140737488355232∧
 (out6++([(ofI .u8 (IntKind.wrap .u8 (IntKind.wrap .i64 (Int.tdiv (IntKind.wrap .i64 (19+(body1.length:Int))) 256)))),(ofI .u8 (IntKind.wrap .u8 (Int.tmod (IntKind.wrap .i64 (19+(body1.length:Int))) 256))),(ofI .u8 (IntKind.wrap .u8 kind0))]:List UInt8)).length+body1.length <= 140737488355232∧
 K ((out6++([(ofI .u8 (IntKind.wrap .u8 (IntKind.wrap .i64 (Int.tdiv (IntKind.wrap .i64 (19+(body1.length:Int))) 256)))),(ofI .u8 (IntKind.wrap .u8 (Int.tmod (IntKind.wrap .i64 (19+(body1.length:Int))) 256))),(ofI .u8 (IntKind.wrap .u8 kind0))]:List UInt8))++body1) 0)
def Zqe (kind0:Int) (body1:List UInt8) (j2:Bool) (K:List UInt8->Int->Prop):Prop:=
 IfB j2
 (K ([]:List UInt8) 2)
 (Zl (List UInt8×Int×Unit) (([]:List UInt8),(0:Int),()) fun y next=>
 WfY Zcfl.kinds y->
 Zbio kind0 body1 y.1 y.2.1 next K)
def Zbdz (kind0:Int) (body1:List UInt8) (K:List UInt8->Int->Prop):Prop:=
 IfB (decide (((body1.length:Int):Int)>4096))
 (Zqe kind0 body1 true K)
 ((WfPs Zyg (kind0,(IntKind.wrap .i64 (19+(body1.length:Int))),())->
 Zbiu kind0 (IntKind.wrap .i64 (19+(body1.length:Int))) (fun x17=>
 WfPs Ztw (x17,())->
 Zqe kind0 body1 (!x17) K)))
noncomputable def Zdec:Tab:=⟨[(Zzl,Zbyo)],[]⟩
abbrev Zbvr (x:PkTs Zbfz) (K:PkTs Zbfr->Prop):Prop:=Zbdz x.1 x.2.1 (fun r0 r1=>K (r0,r1,()))
theorem Zdad:FnQ Tryz.prog Zbfi Zbfz Zbfr Zbvr:=(Zm Zcya (tab:=Zdec) ⟨⟨Zdov,trivial⟩,trivial⟩ rfl).of_eq (by kernel_rfl)
noncomputable def Zbsz:Ct:=Zbq Zbfz Zbfr Zbvr
theorem Zcwu:Zk Tryz.prog Zbfi Zbsz:=Zbt Zdad
theorem Zdjy:Known Tryz.prog Zbdr Tryz.f14 Zcu.plan (Zg Tryz.f14):=by refine ⟨Tryz.func14,?_,?_,?_,?_,?_⟩<;>kernel_rfl
abbrev Zbal:List Pk:=[Pk.agg [Kd.lst [Kd.int .u32,Kd.int .i64],Kd.lst [Kd.int .u32,Kd.int .i64],Kd.int .i64,Kd.lst [Kd.bool,Kd.lst [Kd.int .u32]],Kd.int .u32,Kd.bool,Kd.int .u32,Kd.bool,Kd.int .u32,Kd.bool,Kd.bool,Kd.int .u32,Kd.int .u32,Kd.lst [Kd.int .u32],Kd.lst [Kd.int .i64,Kd.lst [Kd.int .u8]],Kd.int .i64],Pk.bool]
abbrev Zbfb:List Pk:=[Pk.own Zcf [Kd.int .u8]]
def Zbas (u0:List (UInt32×Int)×List (UInt32×Int)×TyL3) (four1:Bool) (K:List UInt8->Prop):Prop:=
 (WfPs Zbfm (((u0.1,u0.2.1,u0.2.2.1,u0.2.2.2.1,(ofI .u32 (u0.q.1.toNat:Int)),u0.q.2.1,(ofI .u32 (u0.q.2.2.1.toNat:Int)),u0.q.2.2.2.1,(ofI .u32 (u0.q.q.1.toNat:Int)),u0.q.q.2.1,u0.q.q.2.2.1,(ofI .u32 (u0.q.q.2.2.2.1.toNat:Int)),(ofI .u32 (u0.q.q.q.1.toNat:Int)),u0.q.q.q.2.1,u0.q.q.q.2.2.1,u0.q.q.q.2.2.2):List (UInt32×Int)×List (UInt32×Int)×TyL3),four1,())->
 Zxw ((u0.1,u0.2.1,u0.2.2.1,u0.2.2.2.1,(ofI .u32 (u0.q.1.toNat:Int)),u0.q.2.1,(ofI .u32 (u0.q.2.2.1.toNat:Int)),u0.q.2.2.2.1,(ofI .u32 (u0.q.q.1.toNat:Int)),u0.q.q.2.1,u0.q.q.2.2.1,(ofI .u32 (u0.q.q.2.2.2.1.toNat:Int)),(ofI .u32 (u0.q.q.q.1.toNat:Int)),u0.q.q.q.2.1,u0.q.q.q.2.2.1,u0.q.q.q.2.2.2):List (UInt32×Int)×List (UInt32×Int)×TyL3) four1 (fun x12r0 x12r1=>
 WfPs Zbar (x12r0,x12r1,())->
 (WfPs Zbfz ((2:Int),x12r0,())->
 Zbdz (2:Int) x12r0 (fun x17r0 x17r1=>
 WfPs Zbfr (x17r0,x17r1,())->
 K x17r0))))
noncomputable def Zdfs:Tab:=⟨[(Zbbt,Zcdm),(Zbfi,Zbsz)],[]⟩
abbrev Zclf (x:PkTs Zbal) (K:PkTs Zbfb->Prop):Prop:=Zbas x.1 x.2.1 (fun r0=>K (r0,()))
theorem Zcor:FnQ Tryz.prog Zbdr Zbal Zbfb Zclf:=(Zm Zdjy (tab:=Zdfs) ⟨⟨Zcrm,Zcwu,trivial⟩,trivial⟩ rfl).of_eq (by kernel_rfl)
noncomputable def Zbyw:Ct:=Zbq Zbal Zbfb Zclf
theorem Zcvl:Zk Tryz.prog Zbdr Zbyw:=Zbt Zcor
theorem Zdjp:Known Tryz.prog Zbai Tryz.f4 Zcu.plan (Zg Tryz.f4):=by refine ⟨Tryz.func4,?_,?_,?_,?_,?_⟩<;>kernel_rfl
abbrev Zbfy:List Pk:=[]
abbrev Zwh:List Pk:=[Pk.bool]
def Zbdh (K:Bool->Prop):Prop:=
 (WfPs Zuh (([((ofI .u32 167772160),8,0,([]:List (Bool×List UInt32)),(ofI .u32 1),false,(ofI .u32 0),false,(ofI .u32 0),false,false,(ofI .u32 0),(ofI .u32 0),([]:List UInt32),([]:List (Int×List UInt8)),true),((ofI .u32 184549376),8,0,([]:List (Bool×List UInt32)),(ofI .u32 1),false,(ofI .u32 0),false,(ofI .u32 0),false,false,(ofI .u32 0),(ofI .u32 0),([]:List UInt32),([]:List (Int×List UInt8)),true)]:List (TyL1)),true,())->
 Zux ([((ofI .u32 167772160),8,0,([]:List (Bool×List UInt32)),(ofI .u32 1),false,(ofI .u32 0),false,(ofI .u32 0),false,false,(ofI .u32 0),(ofI .u32 0),([]:List UInt32),([]:List (Int×List UInt8)),true),((ofI .u32 184549376),8,0,([]:List (Bool×List UInt32)),(ofI .u32 1),false,(ofI .u32 0),false,(ofI .u32 0),false,false,(ofI .u32 0),(ofI .u32 0),([]:List UInt32),([]:List (Int×List UInt8)),true)]:List (TyL1)) true (fun x13r0 x13r1=>
 WfPs Ztb (x13r0,x13r1,())->
 IfB ((x13r1:Int)==0)
 (IfB (((x13r0.length:Int):Int)==1)
 ((WfPs Zbbl (())->
 Zbpt (fun x24=>
 WfPs Zbdv (x24,())->
 (WfPs Zbal (((([]:List (UInt32×Int)),([]:List (UInt32×Int)),0,([]:List (Bool×List UInt32)),(ofI .u32 0),false,(ofI .u32 0),false,(ofI .u32 0),false,false,(ofI .u32 0),(ofI .u32 0),([]:List UInt32),([]:List (Int×List UInt8)),0):List (UInt32×Int)×List (UInt32×Int)×TyL3),true,())->
 Zbas ((([]:List (UInt32×Int)),([]:List (UInt32×Int)),0,([]:List (Bool×List UInt32)),(ofI .u32 0),false,(ofI .u32 0),false,(ofI .u32 0),false,false,(ofI .u32 0),(ofI .u32 0),([]:List UInt32),([]:List (Int×List UInt8)),0):List (UInt32×Int)×List (UInt32×Int)×TyL3) true (fun x26=>
 WfPs Zbfb (x26,())->
 (WfPs Zbcg (x24,x26,())->
 Zbpx x24 x26 (fun x27=>
 WfPs Zxd (x27,())->
 K x27)))))))
 (K false))
 (K false)))
noncomputable def Zcsj:Tab:=⟨[(Ztd,Zbqb),(Zbek,Zcbk),(Zbgm,Zbyi),(Zbdr,Zbyw)],[]⟩
abbrev Zbve (x:PkTs Zbfy) (K:PkTs Zwh->Prop):Prop:=Zbdh (fun r0=>K (r0,()))
theorem Zdos:FnQ Tryz.prog Zbai Zbfy Zwh Zbve:=(Zm Zdjp (tab:=Zcsj) ⟨⟨Zbua,Zdfr,Zcua,Zcvl,trivial⟩,trivial⟩ rfl).of_eq (by kernel_rfl)
noncomputable def Zbzg:Ct:=ctRd Zbfy Zwh Zbve
theorem Zdif:Zk Tryz.prog Zbai Zbzg:=Zbk Zdos
def Zcke:PLoop:=⟨[(3,PK.row Ziq [Kd.bool,Kd.lst [Kd.int .u32]]),(4,PK.int .i64)],[0],[]⟩
def Zdnp:PPlan:=⟨[(5,[0,1,2,3,4,5,6,7,8,9,10,11,12,13,14,15,16],[17])],[(3,Zcke)],[],[],[],[]⟩
theorem Zdmw:Known Tryz.prog Zzw Tryz.f32 Zdnp.plan (Zg Tryz.f32):=by refine ⟨Tryz.func32,?_,?_,?_,?_,?_⟩<;>kernel_rfl
abbrev Zbgr:List Pk:=[Pk.lst [Kd.bool,Kd.lst [Kd.int .u32]]]
abbrev Zwb:List Pk:=[Pk.own Ziq [Kd.bool,Kd.lst [Kd.int .u32]]]
def Zblb (p0:List (Bool×List UInt32)) (out3:List (Bool×List UInt32)) (i4:Int) (next3:(List (Bool×List UInt32)×Int×Unit)->Prop) (K:List (Bool×List UInt32)->Prop):Prop:=
 IfB (decide ((i4:Int)<(p0.length:Int)))
 ((0:Int) <= i4∧AtN p0 i4.toNat fun x15=>
 WfT Zdf x15->
 (0:Int) <= i4∧AtN p0 i4.toNat fun x21=>
 WfT Zdf x21->
 ([]:List UInt32).length+x21.2.length <= 35184372088736∧
 out3.length+([(x15.1,(([]:List UInt32)++x21.2))]:List (Bool×List UInt32)).length <= 4398046511008∧
 next3 ((out3++([(x15.1,(([]:List UInt32)++x21.2))]:List (Bool×List UInt32))),(IntKind.wrap .i64 (i4+1)),()))
 (K out3)
def Zbhk (p0:List (Bool×List UInt32)) (K:List (Bool×List UInt32)->Prop):Prop:=
 Zl (List (Bool×List UInt32)×Int×Unit) (([]:List (Bool×List UInt32)),(0:Int),()) fun y next=>
 WfY Zcke.kinds y->
 Zblb p0 y.1 y.2.1 next K
noncomputable def Zcul:Tab:=⟨[],[]⟩
abbrev Zcgf (x:PkTs Zbgr) (K:PkTs Zwb->Prop):Prop:=Zbhk x.1 (fun r0=>K (r0,()))
theorem Zcpv:FnQ Tryz.prog Zzw Zbgr Zwb Zcgf:=(Zm Zdmw (tab:=Zcul) ⟨trivial,trivial⟩ rfl).of_eq (by kernel_rfl)
noncomputable def Zbzv:Ct:=Zbq Zbgr Zwb Zcgf
theorem Zdgq:Zk Tryz.prog Zzw Zbzv:=Zbt Zcpv
def Zbyk:PLoop:=⟨[(4,PK.int .i64)],[1,2,3],[(3,[PK.int .i64,PK.row Ziq [Kd.bool,Kd.lst [Kd.int .u32]],PK.int .u32,PK.bool,PK.int .u32,PK.bool,PK.int .u32,PK.bool,PK.bool,PK.int .u32,PK.int .u32,PK.row Zdm [Kd.int .u32],PK.row Zcl [Kd.int .i64,Kd.lst [Kd.int .u8]]])]⟩
def Zcvd:PPlan:=⟨[(8,[0,1,2,3,4,5,6,7,8,9,10,11,12,13,14,15,16,17,18,19,20],[25,27,31])],[(6,Zbyk)],[],[],[],[]⟩
theorem Zcod:Known Tryz.prog Zzg Tryz.f15 Zcvd.plan (Zg Tryz.f15):=by refine ⟨Tryz.func15,?_,?_,?_,?_,?_⟩<;>kernel_rfl
abbrev Zbet:List Pk:=[Pk.agg [Kd.int .i64,Kd.lst [Kd.bool,Kd.lst [Kd.int .u32]],Kd.int .u32,Kd.bool,Kd.int .u32,Kd.bool,Kd.int .u32,Kd.bool,Kd.bool,Kd.int .u32,Kd.int .u32,Kd.lst [Kd.int .u32],Kd.lst [Kd.int .i64,Kd.lst [Kd.int .u8]]]]
abbrev Zbbk:List Pk:=[Pk.agg [Kd.int .i64,Kd.lst [Kd.bool,Kd.lst [Kd.int .u32]],Kd.int .u32,Kd.bool,Kd.int .u32,Kd.bool,Kd.int .u32,Kd.bool,Kd.bool,Kd.int .u32,Kd.int .u32,Kd.lst [Kd.int .u32],Kd.lst [Kd.int .i64,Kd.lst [Kd.int .u8]]]]
def Zbip (a0:TyL2) (i4:Int) (c0:Int) (c1:List (Bool×List UInt32)) (c2:Int) (c3:Bool) (c4:Int) (c5:Bool) (c6:Int) (c7:Bool) (c8:Bool) (c9:Int) (c10:Int) (c11:List UInt32) (c12:List (Int×List UInt8)) (next6:(Int×Int×List (Bool×List UInt32)×Int×Bool×Int×Bool×Int×Bool×Bool×Int×Int×List UInt32×List (Int×List UInt8)×Unit)->Prop) (K:(TyL2)->Prop):Prop:=
 IfB (decide ((i4:Int)<(a0.q.q.q.length:Int)))
 ((0:Int) <= i4∧AtN a0.q.q.q i4.toNat fun x29=>
 WfT Zgm x29->
 (0:Int) <= i4∧AtN a0.q.q.q i4.toNat fun x36=>
 WfT Zgm x36->
 ([]:List UInt8).length+x36.2.length <= 140737488355232∧
 c12.length+([(x29.1,(([]:List UInt8)++x36.2))]:List (Int×List UInt8)).length <= 4398046511008∧
 next6 ((IntKind.wrap .i64 (i4+1)),c0,c1,c2,c3,c4,c5,c6,c7,c8,c9,c10,c11,(c12++([(x29.1,(([]:List UInt8)++x36.2))]:List (Int×List UInt8))),()))
 (K (c0,c1,(ofI .u32 c2),c3,(ofI .u32 c4),c5,(ofI .u32 c6),c7,c8,(ofI .u32 c9),(ofI .u32 c10),c11,c12))
def Zyt (a0:TyL2) (K:(TyL2)->Prop):Prop:=
 (WfPs Zbgr (a0.2.1,())->
 Zbhk a0.2.1 (fun x8=>
 WfPs Zwb (x8,())->
 ([]:List UInt32).length+a0.q.q.2.2.2.1.length <= 35184372088736∧
 Zl (Int×Int×List (Bool×List UInt32)×Int×Bool×Int×Bool×Int×Bool×Bool×Int×Int×List UInt32×List (Int×List UInt8)×Unit) ((0:Int),a0.1,x8,(a0.2.2.1.toNat:Int),a0.2.2.2.1,(a0.q.1.toNat:Int),a0.q.2.1,(a0.q.2.2.1.toNat:Int),a0.q.2.2.2.1,a0.q.q.1,(a0.q.q.2.1.toNat:Int),(a0.q.q.2.2.1.toNat:Int),(([]:List UInt32)++a0.q.q.2.2.2.1),([]:List (Int×List UInt8)),()) fun y next=>
 WfY Zbyk.kinds y->
 Zbip a0 y.1 y.2.1 y.2.2.1 y.2.2.2.1 y.q.1 y.q.2.1 y.q.2.2.1 y.q.2.2.2.1 y.q.q.1 y.q.q.2.1 y.q.q.2.2.1 y.q.q.2.2.2.1 y.q.q.q.1 y.q.q.q.2.1 next K))
noncomputable def Zcyb:Tab:=⟨[(Zzw,Zbzv)],[]⟩
abbrev Zcce (x:PkTs Zbet) (K:PkTs Zbbk->Prop):Prop:=Zyt x.1 (fun r0=>K (r0,()))
theorem Zdew:FnQ Tryz.prog Zzg Zbet Zbbk Zcce:=(Zm Zcod (tab:=Zcyb) ⟨⟨Zdgq,trivial⟩,trivial⟩ rfl).of_eq (by kernel_rfl)
noncomputable def Zbte:Ct:=Zbq Zbet Zbbk Zcce
theorem Zdhs:Zk Tryz.prog Zzg Zbte:=Zbt Zdew
def Zclp:PLoop:=⟨[(5,PK.row Zbr [Kd.int .u32,Kd.int .i64,Kd.int .i64,Kd.lst [Kd.bool,Kd.lst [Kd.int .u32]],Kd.int .u32,Kd.bool,Kd.int .u32,Kd.bool,Kd.int .u32,Kd.bool,Kd.bool,Kd.int .u32,Kd.int .u32,Kd.lst [Kd.int .u32],Kd.lst [Kd.int .i64,Kd.lst [Kd.int .u8]],Kd.bool]),(6,PK.int .i64)],[0,1],[]⟩
def Zdnt:PPlan:=⟨[],[(3,Zclp)],[],[],[],[]⟩
theorem Zdcs:Known Tryz.prog Zbhw Tryz.f5 Zdnt.plan (Zg Tryz.f5):=by refine ⟨Tryz.func5,?_,?_,?_,?_,?_⟩<;>kernel_rfl
abbrev Zvu:List Pk:=[Pk.lst [Kd.int .u32,Kd.int .i64,Kd.int .i64,Kd.lst [Kd.bool,Kd.lst [Kd.int .u32]],Kd.int .u32,Kd.bool,Kd.int .u32,Kd.bool,Kd.int .u32,Kd.bool,Kd.bool,Kd.int .u32,Kd.int .u32,Kd.lst [Kd.int .u32],Kd.lst [Kd.int .i64,Kd.lst [Kd.int .u8]],Kd.bool],Pk.int .i64]
abbrev Zbez:List Pk:=[Pk.own Zbr [Kd.int .u32,Kd.int .i64,Kd.int .i64,Kd.lst [Kd.bool,Kd.lst [Kd.int .u32]],Kd.int .u32,Kd.bool,Kd.int .u32,Kd.bool,Kd.int .u32,Kd.bool,Kd.bool,Kd.int .u32,Kd.int .u32,Kd.lst [Kd.int .u32],Kd.lst [Kd.int .i64,Kd.lst [Kd.int .u8]],Kd.bool]]
def Zbhb (l0:List (TyL1)) (most1:Int) (out5:List (TyL1)) (i6:Int) (next3:(List (TyL1)×Int×Unit)->Prop) (j4:Bool) (K:List (TyL1)->Prop):Prop:=
 IfB j4
 ((0:Int) <= i6∧AtN l0 i6.toNat fun x23=>
 WfT ks_7 x23->
 (0:Int) <= (min (x23.2.2.2.1.length:Int) 6)∧(min (x23.2.2.2.1.length:Int) 6) <= (x23.2.2.2.1.length:Int)∧
 (0:Int) <= (min (x23.q.q.q.2.1.length:Int) 40)∧(min (x23.q.q.q.2.1.length:Int) 40) <= (x23.q.q.q.2.1.length:Int)∧
 (0:Int) <= (min (x23.q.q.q.2.2.1.length:Int) 9)∧(min (x23.q.q.q.2.2.1.length:Int) 9) <= (x23.q.q.q.2.2.1.length:Int)∧
 (WfPs Zbet (((x23.2.2.1,(x23.2.2.2.1.take ((min (x23.2.2.2.1.length:Int) 6).toNat)),(ofI .u32 (x23.q.1.toNat:Int)),x23.q.2.1,(ofI .u32 (x23.q.2.2.1.toNat:Int)),x23.q.2.2.2.1,(ofI .u32 (x23.q.q.1.toNat:Int)),x23.q.q.2.1,x23.q.q.2.2.1,(ofI .u32 (x23.q.q.2.2.2.1.toNat:Int)),(ofI .u32 (x23.q.q.q.1.toNat:Int)),(x23.q.q.q.2.1.take ((min (x23.q.q.q.2.1.length:Int) 40).toNat)),(x23.q.q.q.2.2.1.take ((min (x23.q.q.q.2.2.1.length:Int) 9).toNat))):TyL2),())->
 Zyt ((x23.2.2.1,(x23.2.2.2.1.take ((min (x23.2.2.2.1.length:Int) 6).toNat)),(ofI .u32 (x23.q.1.toNat:Int)),x23.q.2.1,(ofI .u32 (x23.q.2.2.1.toNat:Int)),x23.q.2.2.2.1,(ofI .u32 (x23.q.q.1.toNat:Int)),x23.q.q.2.1,x23.q.q.2.2.1,(ofI .u32 (x23.q.q.2.2.2.1.toNat:Int)),(ofI .u32 (x23.q.q.q.1.toNat:Int)),(x23.q.q.q.2.1.take ((min (x23.q.q.q.2.1.length:Int) 40).toNat)),(x23.q.q.q.2.2.1.take ((min (x23.q.q.q.2.2.1.length:Int) 9).toNat))):TyL2) (fun x52=>
 WfPs Zbbk (x52,())->
 out5.length+([((ofI .u32 (x23.1.toNat:Int)),x23.2.1,x52.1,x52.2.1,(ofI .u32 (x52.2.2.1.toNat:Int)),x52.2.2.2.1,(ofI .u32 (x52.q.1.toNat:Int)),x52.q.2.1,(ofI .u32 (x52.q.2.2.1.toNat:Int)),x52.q.2.2.2.1,x52.q.q.1,(ofI .u32 (x52.q.q.2.1.toNat:Int)),(ofI .u32 (x52.q.q.2.2.1.toNat:Int)),x52.q.q.2.2.2.1,x52.q.q.q,x23.q.q.q.2.2.2)]:List (TyL1)).length <= 1034834473104∧
 next3 ((out5++([((ofI .u32 (x23.1.toNat:Int)),x23.2.1,x52.1,x52.2.1,(ofI .u32 (x52.2.2.1.toNat:Int)),x52.2.2.2.1,(ofI .u32 (x52.q.1.toNat:Int)),x52.q.2.1,(ofI .u32 (x52.q.2.2.1.toNat:Int)),x52.q.2.2.2.1,x52.q.q.1,(ofI .u32 (x52.q.q.2.1.toNat:Int)),(ofI .u32 (x52.q.q.2.2.1.toNat:Int)),x52.q.q.2.2.2.1,x52.q.q.q,x23.q.q.q.2.2.2)]:List (TyL1))),(IntKind.wrap .i64 (i6+1)),()))))
 (K out5)
def Zbjy (l0:List (TyL1)) (most1:Int) (out5:List (TyL1)) (i6:Int) (next3:(List (TyL1)×Int×Unit)->Prop) (K:List (TyL1)->Prop):Prop:=
 IfB (decide ((i6:Int)<(l0.length:Int)))
 (Zbhb l0 most1 out5 i6 next3 (decide ((i6:Int)<most1)) K)
 (Zbhb l0 most1 out5 i6 next3 false K)
def Zzi (l0:List (TyL1)) (most1:Int) (K:List (TyL1)->Prop):Prop:=
 Zl (List (TyL1)×Int×Unit) (([]:List (TyL1)),(0:Int),()) fun y next=>
 WfY Zclp.kinds y->
 Zbjy l0 most1 y.1 y.2.1 next K
noncomputable def Zdks:Tab:=⟨[(Zzg,Zbte)],[]⟩
abbrev Zchy (x:PkTs Zvu) (K:PkTs Zbez->Prop):Prop:=Zzi x.1 x.2.1 (fun r0=>K (r0,()))
theorem Zdej:FnQ Tryz.prog Zbhw Zvu Zbez Zchy:=(Zm Zdcs (tab:=Zdks) ⟨⟨Zdhs,trivial⟩,trivial⟩ rfl).of_eq (by kernel_rfl)
noncomputable def Zcfr:Ct:=Zbq Zvu Zbez Zchy
theorem Zcro:Zk Tryz.prog Zbhw Zcfr:=Zbt Zdej
theorem Zdfp:Known Tryz.prog Zblo Tryz.f7 Zcu.plan (Zg Tryz.f7):=by refine ⟨Tryz.func7,?_,?_,?_,?_,?_⟩<;>kernel_rfl
noncomputable def Zdel:Tab:=⟨[],[]⟩
noncomputable def Zbxs:Ct:=Zlu Tryz.prog Zdel Zcu (Zg Tryz.f7) Tryz.f7.ntmps Tryz.f7.results.toList
theorem Zcws:Zk Tryz.prog Zblo Zbxs:=Zuw Zdfp ⟨trivial,trivial⟩
theorem Zdao:Known Tryz.prog Zwi Tryz.f48 Zcu.plan (Zg Tryz.f48):=by refine ⟨Tryz.func48,?_,?_,?_,?_,?_⟩<;>kernel_rfl
abbrev Zbdl:List Pk:=[Pk.lst [Kd.int .u8],Pk.lst [Kd.int .u8]]
abbrev Zbby:List Pk:=[Pk.bool]
def Zbjq (a0:List UInt8) (b1:List UInt8) (K:Bool->Prop):Prop:=
 K (a0==b1)
noncomputable def Zcuf:Tab:=⟨[],[]⟩
abbrev Zcbz (x:PkTs Zbdl) (K:PkTs Zbby->Prop):Prop:=Zbjq x.1 x.2.1 (fun r0=>K (r0,()))
theorem Zdom:FnQ Tryz.prog Zwi Zbdl Zbby Zcbz:=(Zm Zdao (tab:=Zcuf) ⟨trivial,trivial⟩ rfl).of_eq (by kernel_rfl)
noncomputable def Zcbc:Ct:=ctRd Zbdl Zbby Zcbz
theorem Zdcw:Zk Tryz.prog Zwi Zcbc:=Zbk Zdom
theorem Zdjk:Known Tryz.prog Zzk Tryz.f23 Zcu.plan (Zg Tryz.f23):=by refine ⟨Tryz.func23,?_,?_,?_,?_,?_⟩<;>kernel_rfl
abbrev Zyd:List Pk:=[Pk.lst [Kd.int .u8]]
abbrev Zzr:List Pk:=[Pk.agg [Kd.int .i64,Kd.int .i64,Kd.lst [Kd.int .u8]],Pk.bool]
def Zbyl (x14:UInt8) (x19:UInt8) (K:(Int×Int×List UInt8)->Bool->Prop):Prop:=
 (0:Int) <= 8∧
 K (1,2,([(ofI .u8 (IntKind.wrap .u8 (Int.fdiv (Zbz .i64 (IntKind.wrap .i64 ((IntKind.wrap .i64 (x14.toNat:Int))*256)) (IntKind.wrap .i64 (x19.toNat:Int))) 256))),(ofI .u8 (IntKind.wrap .u8 (Zbz .i64 (IntKind.wrap .i64 ((IntKind.wrap .i64 (x14.toNat:Int))*256)) (IntKind.wrap .i64 (x19.toNat:Int)))))]:List UInt8)) false
def Zbor (x14:UInt8) (x19:UInt8) (x24:UInt8) (j8:Bool) (K:(Int×Int×List UInt8)->Bool->Prop):Prop:=
 IfB j8
 (Zbyl x14 x19 K)
 ((WfPs Zvp ((IntKind.wrap .i64 (x24.toNat:Int)),())->
 Zpb (IntKind.wrap .i64 (x24.toNat:Int)) (fun x42r0 x42r1 x42r2=>
 WfPs Ztz (x42r0,x42r1,x42r2,())->
 IfB (!x42r2)
 (K (1,3,([(ofI .u8 (IntKind.wrap .u8 (IntKind.wrap .i64 (x24.toNat:Int))))]:List UInt8)) false)
 ((WfPs Zsz ((IntKind.wrap .i64 (x24.toNat:Int)),(Zbz .i64 (IntKind.wrap .i64 ((IntKind.wrap .i64 (x14.toNat:Int))*256)) (IntKind.wrap .i64 (x19.toNat:Int))),())->
 Zmr (IntKind.wrap .i64 (x24.toNat:Int)) (Zbz .i64 (IntKind.wrap .i64 ((IntKind.wrap .i64 (x14.toNat:Int))*256)) (IntKind.wrap .i64 (x19.toNat:Int))) (fun x56=>
 WfPs Zsg (x56,())->
 IfB x56
 (K (0,0,([]:List UInt8)) true)
 (Zbyl x14 x19 K)))))))
def Zxz (h0:List UInt8) (K:(Int×Int×List UInt8)->Bool->Prop):Prop:=
 (WfPs Zvq (())->
 Zpn (fun x11=>
 WfPs Zug (x11,())->
 (0:Int) <= 16∧AtN h0 16 fun x14=>
 WfT Zcw x14->
 (0:Int) <= 8∧
 (0:Int) <= 17∧AtN h0 17 fun x19=>
 WfT Zcw x19->
 (0:Int) <= 18∧AtN h0 18 fun x24=>
 WfT Zcw x24->
 (0:Int) <= 16∧16 <= (h0.length:Int)∧
 (WfPs Zbdl ((h0.take 16),([(ofI .u8 (x11.1.toNat:Int)),(ofI .u8 (x11.2.1.toNat:Int)),(ofI .u8 (x11.2.2.1.toNat:Int)),(ofI .u8 (x11.2.2.2.1.toNat:Int)),(ofI .u8 (x11.q.1.toNat:Int)),(ofI .u8 (x11.q.2.1.toNat:Int)),(ofI .u8 (x11.q.2.2.1.toNat:Int)),(ofI .u8 (x11.q.2.2.2.1.toNat:Int)),(ofI .u8 (x11.q.q.1.toNat:Int)),(ofI .u8 (x11.q.q.2.1.toNat:Int)),(ofI .u8 (x11.q.q.2.2.1.toNat:Int)),(ofI .u8 (x11.q.q.2.2.2.1.toNat:Int)),(ofI .u8 (x11.q.q.q.1.toNat:Int)),(ofI .u8 (x11.q.q.q.2.1.toNat:Int)),(ofI .u8 (x11.q.q.q.2.2.1.toNat:Int)),(ofI .u8 (x11.q.q.q.2.2.2.toNat:Int))]:List UInt8),())->
 Zbjq (h0.take 16) ([(ofI .u8 (x11.1.toNat:Int)),(ofI .u8 (x11.2.1.toNat:Int)),(ofI .u8 (x11.2.2.1.toNat:Int)),(ofI .u8 (x11.2.2.2.1.toNat:Int)),(ofI .u8 (x11.q.1.toNat:Int)),(ofI .u8 (x11.q.2.1.toNat:Int)),(ofI .u8 (x11.q.2.2.1.toNat:Int)),(ofI .u8 (x11.q.2.2.2.1.toNat:Int)),(ofI .u8 (x11.q.q.1.toNat:Int)),(ofI .u8 (x11.q.q.2.1.toNat:Int)),(ofI .u8 (x11.q.q.2.2.1.toNat:Int)),(ofI .u8 (x11.q.q.2.2.2.1.toNat:Int)),(ofI .u8 (x11.q.q.q.1.toNat:Int)),(ofI .u8 (x11.q.q.q.2.1.toNat:Int)),(ofI .u8 (x11.q.q.q.2.2.1.toNat:Int)),(ofI .u8 (x11.q.q.q.2.2.2.toNat:Int))]:List UInt8) (fun x30=>
 WfPs Zbby (x30,())->
 IfB (!x30)
 (K (1,1,([]:List UInt8)) false)
 (IfB (decide (((Zbz .i64 (IntKind.wrap .i64 ((IntKind.wrap .i64 (x14.toNat:Int))*256)) (IntKind.wrap .i64 (x19.toNat:Int))):Int)<19))
 (Zbor x14 x19 x24 true K)
 (Zbor x14 x19 x24 (decide (((Zbz .i64 (IntKind.wrap .i64 ((IntKind.wrap .i64 (x14.toNat:Int))*256)) (IntKind.wrap .i64 (x19.toNat:Int))):Int)>4096)) K))))))
noncomputable def Zctg:Tab:=⟨[(Zqs,Zbof),(Zwi,Zcbc),(Zqf,Zbke),(Zrl,Zbii)],[]⟩
abbrev Zceg (x:PkTs Zyd) (K:PkTs Zzr->Prop):Prop:=Zxz x.1 (fun r0 r1=>K (r0,r1,()))
theorem Zdle:FnQ Tryz.prog Zzk Zyd Zzr Zceg:=(Zm Zdjk (tab:=Zctg) ⟨⟨Zcja,Zdcw,Zcct,Zcam,trivial⟩,trivial⟩ rfl).of_eq (by kernel_rfl)
noncomputable def Zccz:Ct:=Zbq Zyd Zzr Zceg
theorem Zczl:Zk Tryz.prog Zzk Zccz:=Zbt Zdle
def Zbyt:PPlan:=⟨[(4,[0,1,2,3,4,5,6,7,8,9,10,11,12,15,13,14,16],[33,35])],[],[],[],[],[(4,⟨15,[0,1,2,3,4,5],[6,7,8,9,10,11,12,13,14],[],[16],[13]⟩)]⟩
theorem Zddf:Known Tryz.prog Zbjm Tryz.f24 Zbyt.plan (Zg Tryz.f24):=by refine ⟨Tryz.func24,?_,?_,?_,?_,?_⟩<;>kernel_rfl
noncomputable def Zdhx:Tab:=⟨[(Zlp,Zbsx)],[]⟩
noncomputable def Zbzy:Ct:=Zlu Tryz.prog Zdhx Zbyt (Zg Tryz.f24) Tryz.f24.ntmps Tryz.f24.results.toList
theorem Zdfe:Zk Tryz.prog Zbjm Zbzy:=Zuw Zddf ⟨⟨Zdjn,trivial⟩,trivial⟩
def Zccr:PLoop:=⟨[(7,PK.row Zcjf [Kd.int .i64,Kd.lst [Kd.int .u8]])],[0,5],[(0,[PK.lst [Kd.int .u8],PK.bool,PK.bool]),(5,[PK.int .i64,PK.int .i64,PK.row Zcf [Kd.int .u8]])]⟩
def Zcwa:PPlan:=⟨[],[(5,Zccr)],[],[],[],[]⟩
theorem Zcxx:Known Tryz.prog Zxu Tryz.f8 Zcwa.plan (Zg Tryz.f8):=by refine ⟨Tryz.func8,?_,?_,?_,?_,?_⟩<;>kernel_rfl
abbrev Zbnh:List Pk:=[Pk.lst [Kd.int .u8]]
abbrev Zbpz:List Pk:=[Pk.own Zcjf [Kd.int .i64,Kd.lst [Kd.int .u8]],Pk.agg [Kd.int .i64,Kd.int .i64,Kd.lst [Kd.int .u8]],Pk.bool]
abbrev Zze:List PK:=[PK.lst [Kd.int .u8],PK.bool,PK.bool]
def Zbqd (c1_1:Bool) (c2_1:Bool) (c0_2:Int) (c1_2:Int) (c2_2:List UInt8) (l7:List (Int×List UInt8)) (j0_1:List UInt8) (K:List UInt8->Bool->Bool->List (Int×List UInt8)->(Int×Int×List UInt8)->Bool->Prop):Prop:=
 K j0_1 c1_1 c2_1 l7 (0,0,([]:List UInt8)) true
def Zbli (c1_1:Bool) (c2_1:Bool) (c0_2:Int) (c1_2:Int) (c2_2:List UInt8) (l7:List (Int×List UInt8)) (next5:(List (Int×List UInt8)×List UInt8×Bool×Bool×Int×Int×List UInt8×Unit)->Prop) (j0:List UInt8) (j7_1:Int) (j8:List UInt8) (j9:Bool) (K:List UInt8->Bool->Bool->List (Int×List UInt8)->(Int×Int×List UInt8)->Bool->Prop):Prop:=
 IfB (!j9)
 (Zbqd c1_1 c2_1 c0_2 c1_2 c2_2 l7 j0 K)
 (l7.length+([(j7_1,j8)]:List (Int×List UInt8)).length <= 4398046511008∧
 next5 ((l7++([(j7_1,j8)]:List (Int×List UInt8))),j0,c1_1,c2_1,c0_2,c1_2,c2_2,()))
def Zbef (c0_1:List UInt8) (c1_1:Bool) (c2_1:Bool) (x10:UInt8) (x18:UInt8) (x34:UInt8) (next5:(List (Int×List UInt8)×List UInt8×Bool×Bool×Int×Int×List UInt8×Unit)->Prop) (c0_2:Int) (c1_2:Int) (c2_2:List UInt8) (l7:List (Int×List UInt8)) (j7_2:List UInt8) (K:List UInt8->Bool->Bool->List (Int×List UInt8)->(Int×Int×List UInt8)->Bool->Prop):Prop:=
 (0:Int) <= (Zbz .i64 (IntKind.wrap .i64 ((IntKind.wrap .i64 (x10.toNat:Int))*256)) (IntKind.wrap .i64 (x18.toNat:Int)))∧(Zbz .i64 (IntKind.wrap .i64 ((IntKind.wrap .i64 (x10.toNat:Int))*256)) (IntKind.wrap .i64 (x18.toNat:Int))) <= (c0_1.length:Int)∧
 Zbli c1_1 c2_1 c0_2 c1_2 c2_2 l7 next5 (c0_1.drop ((Zbz .i64 (IntKind.wrap .i64 ((IntKind.wrap .i64 (x10.toNat:Int))*256)) (IntKind.wrap .i64 (x18.toNat:Int))).toNat)) (IntKind.wrap .i64 (x34.toNat:Int)) j7_2 true K
def Zbnl (x35:List UInt8) (c1:Bool) (c2:Bool) (l7:List (Int×List UInt8)) (c0_1:List UInt8) (c1_1:Bool) (c2_1:Bool) (c0_2:Int) (c1_2:Int) (c2_2:List UInt8) (next5:(List (Int×List UInt8)×List UInt8×Bool×Bool×Int×Int×List UInt8×Unit)->Prop) (K:List UInt8->Bool->Bool->List (Int×List UInt8)->(Int×Int×List UInt8)->Bool->Prop):Prop:=
 IfB (decide (((c0_1.length:Int):Int)≥19))
 ((0:Int) <= 19∧19 <= (c0_1.length:Int)∧
 (WfPs Zyd ((c0_1.take 19),())->
 Zxz (c0_1.take 19) (fun x50r0 x50r1=>
 WfPs Zzr (x50r0,x50r1,())->
 IfB (!x50r1)
 (K ([]:List UInt8) c1_1 true l7 x50r0 false)
 ((0:Int) <= 16∧AtN c0_1 16 fun x10=>
 WfT Zcw x10->
 (0:Int) <= 8∧
 (0:Int) <= 17∧AtN c0_1 17 fun x18=>
 WfT Zcw x18->
 IfB (decide (((c0_1.length:Int):Int)<(Zbz .i64 (IntKind.wrap .i64 ((IntKind.wrap .i64 (x10.toNat:Int))*256)) (IntKind.wrap .i64 (x18.toNat:Int)))))
 (Zbli c1_1 c2_1 c0_2 c1_2 c2_2 l7 next5 c0_1 0 ([]:List UInt8) false K)
 ((0:Int) <= 18∧AtN c0_1 18 fun x34=>
 WfT Zcw x34->
 (0:Int) <= (Zbz .i64 (IntKind.wrap .i64 ((IntKind.wrap .i64 (x10.toNat:Int))*256)) (IntKind.wrap .i64 (x18.toNat:Int)))∧(Zbz .i64 (IntKind.wrap .i64 ((IntKind.wrap .i64 (x10.toNat:Int))*256)) (IntKind.wrap .i64 (x18.toNat:Int))) <= (c0_1.length:Int)∧
 (0:Int) <= 19∧19 <= ((Zbz .i64 (IntKind.wrap .i64 ((IntKind.wrap .i64 (x10.toNat:Int))*256)) (IntKind.wrap .i64 (x18.toNat:Int))).toNat:Int)∧
 ((WfPs Zud (((c0_1.take ((Zbz .i64 (IntKind.wrap .i64 ((IntKind.wrap .i64 (x10.toNat:Int))*256)) (IntKind.wrap .i64 (x18.toNat:Int))).toNat)).drop 19),())->
 Zvy ((c0_1.take ((Zbz .i64 (IntKind.wrap .i64 ((IntKind.wrap .i64 (x10.toNat:Int))*256)) (IntKind.wrap .i64 (x18.toNat:Int))).toNat)).drop 19) (fun x43=>
 WfPs Zqj (x43,())->
 Zbef c0_1 c1_1 c2_1 x10 x18 x34 next5 c0_2 c1_2 c2_2 l7 x43 K)))∧
 ((WfPs Zud (((c0_1.take ((Zbz .i64 (IntKind.wrap .i64 ((IntKind.wrap .i64 (x10.toNat:Int))*256)) (IntKind.wrap .i64 (x18.toNat:Int))).toNat)).drop 19),())->
 Zvy ((c0_1.take ((Zbz .i64 (IntKind.wrap .i64 ((IntKind.wrap .i64 (x10.toNat:Int))*256)) (IntKind.wrap .i64 (x18.toNat:Int))).toNat)).drop 19) (fun x43_1=>
 WfPs Zqj (x43_1,())->
 Zbef c0_1 c1_1 c2_1 x10 x18 x34 next5 c0_2 c1_2 c2_2 l7 x43_1 K))))))))
 (Zbqd c1_1 c2_1 c0_2 c1_2 c2_2 l7 c0_1 K)
def Zbos (c0:List UInt8) (c1:Bool) (c2:Bool) (b1:List UInt8) (j7:Bool) (K:List UInt8->Bool->Bool->List (Int×List UInt8)->(Int×Int×List UInt8)->Bool->Prop):Prop:=
 IfB j7
 (K c0 c1 c2 ([]:List (Int×List UInt8)) (0,0,([]:List UInt8)) false)
 ((WfPs Zlc (([c0,b1]:List (List UInt8)),())->
 Zka ([c0,b1]:List (List UInt8)) (fun x35=>
 WfPs Zkk (x35,())->
 Zl (List (Int×List UInt8)×List UInt8×Bool×Bool×Int×Int×List UInt8×Unit) (([]:List (Int×List UInt8)),x35,c1,c2,(0:Int),(0:Int),([]:List UInt8),()) fun y next=>
 WfY Zccr.kinds y->
 Zbnl x35 c1 c2 y.1 y.2.1 y.2.2.1 y.2.2.2.1 y.q.1 y.q.2.1 y.q.2.2.1 next K)))
def Ztl (c0:List UInt8) (c1:Bool) (c2:Bool) (b1:List UInt8) (K:List UInt8->Bool->Bool->List (Int×List UInt8)->(Int×Int×List UInt8)->Bool->Prop):Prop:=
 IfB (!c1)
 (Zbos c0 c1 c2 b1 true K)
 (Zbos c0 c1 c2 b1 c2 K)
noncomputable def Zdkt:Tab:=⟨[(Zju,Zne),(Zzk,Zccz),(Zbjm,Zbzy)],[]⟩
theorem Zdbg:FnO Tryz.prog Zxu Zcdw Zze Zbnh Zbpz (fun o x K=>Ztl o.1 o.2.1 o.2.2.1 x.1 (fun o0 o1 o2 r0 r1 r2=>K (o0,o1,o2,()) (r0,r1,r2,()))):=(Zbfg Zcxx (tab:=Zdkt) ⟨⟨Ztc,Zczl,Zdfe,trivial⟩,trivial⟩ rfl).of_eq (by kernel_rfl)
noncomputable def Zccg:Ct:=Znl Zcdw Zze Zbnh Zbpz (fun o x K=>Ztl o.1 o.2.1 o.2.2.1 x.1 (fun o0 o1 o2 r0 r1 r2=>K (o0,o1,o2,()) (r0,r1,r2,())))
theorem Zcvv:Zk Tryz.prog Zxu Zccg:=Zbed Zdbg
theorem Zcxw:Known Tryz.prog Zwx Tryz.f52 Zcu.plan (Zg Tryz.f52):=by refine ⟨Tryz.func52,?_,?_,?_,?_,?_⟩<;>kernel_rfl
abbrev Ztp:List Pk:=[Pk.lst [Kd.int .u8]]
abbrev Zte:List Pk:=[Pk.int .i64]
def Zqp (b0:List UInt8) (K:Int->Prop):Prop:=
 (0:Int) <= 0∧AtN b0 0 fun x4=>
 WfT Zcw x4->
 (0:Int) <= 8∧
 (0:Int) <= 1∧AtN b0 1 fun x9=>
 WfT Zcw x9->
 K (Zbz .i64 (IntKind.wrap .i64 ((IntKind.wrap .i64 (x4.toNat:Int))*256)) (IntKind.wrap .i64 (x9.toNat:Int)))
noncomputable def Zdcz:Tab:=⟨[],[]⟩
abbrev Zclw (x:PkTs Ztp) (K:PkTs Zte->Prop):Prop:=Zqp x.1 (fun r0=>K (r0,()))
theorem Zdaj:FnQ Tryz.prog Zwx Ztp Zte Zclw:=(Zm Zcxw (tab:=Zdcz) ⟨trivial,trivial⟩ rfl).of_eq (by kernel_rfl)
noncomputable def Zbvg:Ct:=ctRd Ztp Zte Zclw
theorem Zcne:Zk Tryz.prog Zwx Zbvg:=Zbk Zdaj
theorem Zdie:Known Tryz.prog Zwm Tryz.f25 Zcu.plan (Zg Tryz.f25):=by refine ⟨Tryz.func25,?_,?_,?_,?_,?_⟩<;>kernel_rfl
abbrev Ztr:List Pk:=[Pk.lst [Kd.int .u8]]
abbrev Ztg:List Pk:=[Pk.lst [Kd.int .u8],Pk.lst [Kd.int .u8],Pk.bool]
def Zrs (b0:List UInt8) (j1:Bool) (K:List UInt8->List UInt8->Bool->Prop):Prop:=
 IfB j1
 (K ([]:List UInt8) ([]:List UInt8) false)
 ((WfPs Ztp (b0,())->
 Zqp b0 (fun x18=>
 WfPs Zte (x18,())->
 (0:Int) <= (IntKind.wrap .i64 (2+x18))∧(IntKind.wrap .i64 (2+x18)) <= (b0.length:Int)∧
 (0:Int) <= 2∧2 <= ((IntKind.wrap .i64 (2+x18)).toNat:Int)∧
 (0:Int) <= (IntKind.wrap .i64 (2+x18))∧(IntKind.wrap .i64 (2+x18)) <= (b0.length:Int)∧
 K ((b0.take ((IntKind.wrap .i64 (2+x18)).toNat)).drop 2) (b0.drop ((IntKind.wrap .i64 (2+x18)).toNat)) true)))
def Zky (b0:List UInt8) (K:List UInt8->List UInt8->Bool->Prop):Prop:=
 IfB (decide (((b0.length:Int):Int)<2))
 (Zrs b0 true K)
 ((WfPs Ztp (b0,())->
 Zqp b0 (fun x11=>
 WfPs Zte (x11,())->
 Zrs b0 (decide ((x11:Int)>(IntKind.wrap .i64 ((b0.length:Int) - 2)))) K)))
noncomputable def Zcqx:Tab:=⟨[(Zwx,Zbvg)],[]⟩
abbrev Zciy (x:PkTs Ztr) (K:PkTs Ztg->Prop):Prop:=Zky x.1 (fun r0 r1 r2=>K (r0,r1,r2,()))
theorem Zdnc:FnQ Tryz.prog Zwm Ztr Ztg Zciy:=(Zm Zdie (tab:=Zcqx) ⟨⟨Zcne,trivial⟩,trivial⟩ rfl).of_eq (by kernel_rfl)
noncomputable def Zcdz:Ct:=Zbq Ztr Ztg Zciy
theorem Zcve:Zk Tryz.prog Zwm Zcdz:=Zbt Zdnc
theorem Zdow:Known Tryz.prog Zbfv Tryz.f26 Zcu.plan (Zg Tryz.f26):=by refine ⟨Tryz.func26,?_,?_,?_,?_,?_⟩<;>kernel_rfl
abbrev Zmv:List Pk:=[Pk.int .i64]
abbrev Zny:List Pk:=[Pk.agg [Kd.lst [Kd.int .u32,Kd.int .i64],Kd.lst [Kd.int .u32,Kd.int .i64],Kd.int .i64,Kd.lst [Kd.bool,Kd.lst [Kd.int .u32]],Kd.int .u32,Kd.bool,Kd.int .u32,Kd.bool,Kd.int .u32,Kd.bool,Kd.bool,Kd.int .u32,Kd.int .u32,Kd.lst [Kd.int .u32],Kd.lst [Kd.int .i64,Kd.lst [Kd.int .u8]],Kd.int .i64],Pk.agg [Kd.int .i64,Kd.int .i64,Kd.lst [Kd.int .u8]],Pk.bool]
def Znc (sub0:Int) (K:List (UInt32×Int)×List (UInt32×Int)×TyL3->(Int×Int×List UInt8)->Bool->Prop):Prop:=
 K (([]:List (UInt32×Int)),([]:List (UInt32×Int)),0,([]:List (Bool×List UInt32)),(ofI .u32 0),false,(ofI .u32 0),false,(ofI .u32 0),false,false,(ofI .u32 0),(ofI .u32 0),([]:List UInt32),([]:List (Int×List UInt8)),0) (3,sub0,([]:List UInt8)) false
noncomputable def Zddq:Tab:=⟨[],[]⟩
abbrev Zbwx (x:PkTs Zmv) (K:PkTs Zny->Prop):Prop:=Znc x.1 (fun r0 r1 r2=>K (r0,r1,r2,()))
theorem Zdls:FnQ Tryz.prog Zbfv Zmv Zny Zbwx:=(Zm Zdow (tab:=Zddq) ⟨trivial,trivial⟩ rfl).of_eq (by kernel_rfl)
noncomputable def Zcdl:Ct:=Zbq Zmv Zny Zbwx
theorem Zdkg:Zk Tryz.prog Zbfv Zcdl:=Zbt Zdls
theorem Zdmd:Known Tryz.prog Zbld Tryz.f57 Zcu.plan (Zg Tryz.f57):=by refine ⟨Tryz.func57,?_,?_,?_,?_,?_⟩<;>kernel_rfl
noncomputable def Zdpm:Tab:=⟨[],[]⟩
noncomputable def Zbze:Ct:=Zlu Tryz.prog Zdpm Zcu (Zg Tryz.f57) Tryz.f57.ntmps Tryz.f57.results.toList
theorem Zcyv:Zk Tryz.prog Zbld Zbze:=Zuw Zdmd ⟨trivial,trivial⟩
def Zqd:PLoop:=⟨[],[2,3,4],[(2,[PK.row Zha [Kd.int .u32,Kd.int .i64]]),(3,[PK.bool]),(4,[PK.row Zha [Kd.int .u32,Kd.int .i64]])]⟩
def Zdap:PPlan:=⟨[],[(4000003,Zqd)],[],[],[],[]⟩
theorem Zcvq:Known Tryz.prog Zbbx Tryz.f28 Zdap.plan (Zg Tryz.f28):=by refine ⟨Tryz.func28,?_,?_,?_,?_,?_⟩<;>kernel_rfl
abbrev Zsl:List Pk:=[Pk.lst [Kd.int .u8]]
abbrev Zrd:List Pk:=[Pk.own Zha [Kd.int .u32,Kd.int .i64],Pk.bool]
def Zbjh (c0:List (UInt32×Int)) (c0_1:Bool) (c0_2:List (UInt32×Int)) (K:List (UInt32×Int)->Bool->Prop):Prop:=
 K c0_2 true
def Zbzp (c0_3:List (UInt32×Int)) (c0_4:Bool) (c0_5:List (UInt32×Int)) (x9:UInt32×Int) (x10:Bool) (next4000003:(List (UInt32×Int)×Bool×List (UInt32×Int)×Unit)->Prop) (K:List (UInt32×Int)->Bool->Prop):Prop:=
 IfB (!x10)
 (K ([]:List (UInt32×Int)) false)
 (c0_5.length+([((ofI .u32 (x9.1.toNat:Int)),x9.2)]:List (UInt32×Int)).length <= 8796093022112∧
 next4000003 (c0_3,c0_4,(c0_5++([((ofI .u32 (x9.1.toNat:Int)),x9.2)]:List (UInt32×Int))),()))
def Zsj (b0:List UInt8) (K:List (UInt32×Int)->Bool->Prop):Prop:=
 Zhz.pre (b0,())∧
 Zdv (fun (y:(List (UInt32×Int)×Bool×List (UInt32×Int)×Unit))=>WfY Zqd.kinds y->Zbjh y.1 y.2.1 y.2.2.1 K)
 (fun (y:(List (UInt32×Int)×Bool×List (UInt32×Int)×Unit)) (x:((UInt32×Int)×Bool×Unit)) (next:(List (UInt32×Int)×Bool×List (UInt32×Int)×Unit)->Prop)=>WfY Zqd.kinds y->WfPs Zhz.ps x->Zbzp y.1 y.2.1 y.2.2.1 x.1 x.2.1 next K) (Zhz.xs (b0,())) (([]:List (UInt32×Int)),false,([]:List (UInt32×Int)),())
noncomputable def Zdfy:Tab:=⟨[(Zbld,Zbze)],[(Zqx,Zhz)]⟩
abbrev Zcib (x:PkTs Zsl) (K:PkTs Zrd->Prop):Prop:=Zsj x.1 (fun r0 r1=>K (r0,r1,()))
theorem Zdjh:FnQ Tryz.prog Zbbx Zsl Zrd Zcib:=(Zm Zcvq (tab:=Zdfy) ⟨⟨Zcyv,trivial⟩,⟨Zddg,trivial⟩⟩ rfl).of_eq (by kernel_rfl)
noncomputable def Zcjh:Ct:=Zbq Zsl Zrd Zcib
theorem Zdme:Zk Tryz.prog Zbbx Zcjh:=Zbt Zdjh
def Zcnx:PPlan:=⟨[(9,[0,1,2,3,4],[56]),(18,[0,1,2,3,4,5],[91])],[],[],[(9,[4]),(18,[15])],[],[]⟩
theorem Zdlw:Known Tryz.prog Zwy Tryz.f9 Zcnx.plan (Zg Tryz.f9):=by refine ⟨Tryz.func9,?_,?_,?_,?_,?_⟩<;>kernel_rfl
abbrev Zbcw:List Pk:=[Pk.lst [Kd.int .u8],Pk.bool]
abbrev Zzh:List Pk:=[Pk.agg [Kd.lst [Kd.int .u32,Kd.int .i64],Kd.lst [Kd.int .u32,Kd.int .i64],Kd.int .i64,Kd.lst [Kd.bool,Kd.lst [Kd.int .u32]],Kd.int .u32,Kd.bool,Kd.int .u32,Kd.bool,Kd.int .u32,Kd.bool,Kd.bool,Kd.int .u32,Kd.int .u32,Kd.lst [Kd.int .u32],Kd.lst [Kd.int .i64,Kd.lst [Kd.int .u8]],Kd.int .i64],Pk.agg [Kd.int .i64,Kd.int .i64,Kd.lst [Kd.int .u8]],Pk.bool]
def Zna (x49r1:Int) (j20:List (UInt32×Int)) (j21:Int) (j22:List (Bool×List UInt32)) (j23:Int) (j24:Bool) (j25:Int) (j26:Bool) (j27:Int) (j28:Bool) (j29:Bool) (j30:Int) (j31:Int) (j32:List UInt32) (j33:List (Int×List UInt8)) (j35:List (UInt32×Int)) (K:List (UInt32×Int)×List (UInt32×Int)×TyL3->(Int×Int×List UInt8)->Bool->Prop):Prop:=
 K (j35,j20,j21,j22,(ofI .u32 j23),j24,(ofI .u32 j25),j26,(ofI .u32 j27),j28,j29,(ofI .u32 j30),(ofI .u32 j31),j32,j33,x49r1) (0,0,([]:List UInt8)) true
def Zqb (x49r0:TyL2) (x49r1:Int) (x61r0:List (UInt32×Int)) (x66r0:List (UInt32×Int)) (j51:Bool) (K:List (UInt32×Int)×List (UInt32×Int)×TyL3->(Int×Int×List UInt8)->Bool->Prop):Prop:=
 IfB j51
 ((WfPs Zmv ((10:Int),())->
 Znc (10:Int) (fun x76r0 x76r1 x76r2=>
 WfPs Zny (x76r0,x76r1,x76r2,())->
 K (x76r0.1,x76r0.2.1,x76r0.2.2.1,x76r0.2.2.2.1,(ofI .u32 (x76r0.q.1.toNat:Int)),x76r0.q.2.1,(ofI .u32 (x76r0.q.2.2.1.toNat:Int)),x76r0.q.2.2.2.1,(ofI .u32 (x76r0.q.q.1.toNat:Int)),x76r0.q.q.2.1,x76r0.q.q.2.2.1,(ofI .u32 (x76r0.q.q.2.2.2.1.toNat:Int)),(ofI .u32 (x76r0.q.q.q.1.toNat:Int)),x76r0.q.q.q.2.1,x76r0.q.q.q.2.2.1,x76r0.q.q.q.2.2.2) x76r1 x76r2)))
 (IfB ((x49r1:Int)==2)
 (x61r0.length+x66r0.length <= 8796093022112∧
 Zna x49r1 ([]:List (UInt32×Int)) 0 ([]:List (Bool×List UInt32)) 0 false 0 false 0 false false 0 0 ([]:List UInt32) ([]:List (Int×List UInt8)) (x61r0++x66r0) K)
 (IfB (decide (((x66r0.length:Int):Int)>0))
 (Zna x49r1 x66r0 x49r0.1 x49r0.2.1 (x49r0.2.2.1.toNat:Int) x49r0.2.2.2.1 (x49r0.q.1.toNat:Int) x49r0.q.2.1 (x49r0.q.2.2.1.toNat:Int) x49r0.q.2.2.2.1 x49r0.q.q.1 (x49r0.q.q.2.1.toNat:Int) (x49r0.q.q.2.2.1.toNat:Int) x49r0.q.q.2.2.2.1 x49r0.q.q.q x61r0 K)
 (Zna x49r1 ([]:List (UInt32×Int)) 0 ([]:List (Bool×List UInt32)) 0 false 0 false 0 false false 0 0 ([]:List UInt32) ([]:List (Int×List UInt8)) x61r0 K)))
def Zbbf (b0:List UInt8) (four1:Bool) (K:List (UInt32×Int)×List (UInt32×Int)×TyL3->(Int×Int×List UInt8)->Bool->Prop):Prop:=
 (WfPs Ztr (b0,())->
 Zky b0 (fun x21r0 x21r1 x21r2=>
 WfPs Ztg (x21r0,x21r1,x21r2,())->
 IfB (!x21r2)
 ((WfPs Zmv ((1:Int),())->
 Znc (1:Int) (fun x27r0 x27r1 x27r2=>
 WfPs Zny (x27r0,x27r1,x27r2,())->
 K (x27r0.1,x27r0.2.1,x27r0.2.2.1,x27r0.2.2.2.1,(ofI .u32 (x27r0.q.1.toNat:Int)),x27r0.q.2.1,(ofI .u32 (x27r0.q.2.2.1.toNat:Int)),x27r0.q.2.2.2.1,(ofI .u32 (x27r0.q.q.1.toNat:Int)),x27r0.q.q.2.1,x27r0.q.q.2.2.1,(ofI .u32 (x27r0.q.q.2.2.2.1.toNat:Int)),(ofI .u32 (x27r0.q.q.q.1.toNat:Int)),x27r0.q.q.q.2.1,x27r0.q.q.q.2.2.1,x27r0.q.q.q.2.2.2) x27r1 x27r2)))
 ((WfPs Ztr (x21r1,())->
 Zky x21r1 (fun x33r0 x33r1 x33r2=>
 WfPs Ztg (x33r0,x33r1,x33r2,())->
 IfB (!x33r2)
 ((WfPs Zmv ((1:Int),())->
 Znc (1:Int) (fun x39r0 x39r1 x39r2=>
 WfPs Zny (x39r0,x39r1,x39r2,())->
 K (x39r0.1,x39r0.2.1,x39r0.2.2.1,x39r0.2.2.2.1,(ofI .u32 (x39r0.q.1.toNat:Int)),x39r0.q.2.1,(ofI .u32 (x39r0.q.2.2.1.toNat:Int)),x39r0.q.2.2.2.1,(ofI .u32 (x39r0.q.q.1.toNat:Int)),x39r0.q.q.2.1,x39r0.q.q.2.2.1,(ofI .u32 (x39r0.q.q.2.2.2.1.toNat:Int)),(ofI .u32 (x39r0.q.q.q.1.toNat:Int)),x39r0.q.q.q.2.1,x39r0.q.q.q.2.2.1,x39r0.q.q.q.2.2.2) x39r1 x39r2)))
 ((WfPs Zbjx (x33r0,four1,(decide (((x33r1.length:Int):Int)>0)),())->
 Zbji x33r0 four1 (decide (((x33r1.length:Int):Int)>0)) (fun x49r0 x49r1 x49r2=>
 WfPs Zbjj (x49r0,x49r1,x49r2,())->
 IfB ((x49r1:Int)==3)
 (K (([]:List (UInt32×Int)),([]:List (UInt32×Int)),0,([]:List (Bool×List UInt32)),(ofI .u32 0),false,(ofI .u32 0),false,(ofI .u32 0),false,false,(ofI .u32 0),(ofI .u32 0),([]:List UInt32),([]:List (Int×List UInt8)),0) x49r2 false)
 ((WfPs Zsl (x21r0,())->
 Zsj x21r0 (fun x61r0 x61r1=>
 WfPs Zrd (x61r0,x61r1,())->
 (WfPs Zsl (x33r1,())->
 Zsj x33r1 (fun x66r0 x66r1=>
 WfPs Zrd (x66r0,x66r1,())->
 IfB (!x61r1)
 (Zqb x49r0 x49r1 x61r0 x66r0 true K)
 (Zqb x49r0 x49r1 x61r0 x66r0 (!x66r1) K))))))))))))))
noncomputable def Zdfd:Tab:=⟨[(Zwm,Zcdz),(Zbfv,Zcdl),(Znr,Zbyd),(Zbbx,Zcjh)],[]⟩
abbrev Zbyf (x:PkTs Zbcw) (K:PkTs Zzh->Prop):Prop:=Zbbf x.1 x.2.1 (fun r0 r1 r2=>K (r0,r1,r2,()))
theorem Zdgk:FnQ Tryz.prog Zwy Zbcw Zzh Zbyf:=(Zm Zdlw (tab:=Zdfd) ⟨⟨Zcve,Zdkg,Zcwx,Zdme,trivial⟩,trivial⟩ rfl).of_eq (by kernel_rfl)
noncomputable def Zbvs:Ct:=Zbq Zbcw Zzh Zbyf
theorem Zcyt:Zk Tryz.prog Zwy Zbvs:=Zbt Zdgk
def Zcef:PLoop:=⟨[(6,PK.int .i64)],[0,3,4],[(4,[PK.int .u32,PK.int .i64,PK.int .i64,PK.row Ziq [Kd.bool,Kd.lst [Kd.int .u32]],PK.int .u32,PK.bool,PK.int .u32,PK.bool,PK.int .u32,PK.bool,PK.bool,PK.int .u32,PK.int .u32,PK.row Zdm [Kd.int .u32],PK.row Zcl [Kd.int .i64,Kd.lst [Kd.int .u8]],PK.bool])]⟩
def Zcxu:PPlan:=⟨[],[(2,Zcef)],[],[],[],[]⟩
theorem Zcuv:Known Tryz.prog Zbad Tryz.f10 Zcxu.plan (Zg Tryz.f10):=by refine ⟨Tryz.func10,?_,?_,?_,?_,?_⟩<;>kernel_rfl
abbrev Zsh:List Pk:=[Pk.lst [Kd.int .u32,Kd.int .i64,Kd.int .i64,Kd.lst [Kd.bool,Kd.lst [Kd.int .u32]],Kd.int .u32,Kd.bool,Kd.int .u32,Kd.bool,Kd.int .u32,Kd.bool,Kd.bool,Kd.int .u32,Kd.int .u32,Kd.lst [Kd.int .u32],Kd.lst [Kd.int .i64,Kd.lst [Kd.int .u8]],Kd.bool],Pk.agg [Kd.int .u32,Kd.int .i64]]
abbrev Zse:List Pk:=[Pk.agg [Kd.int .u32,Kd.int .i64,Kd.int .i64,Kd.lst [Kd.bool,Kd.lst [Kd.int .u32]],Kd.int .u32,Kd.bool,Kd.int .u32,Kd.bool,Kd.int .u32,Kd.bool,Kd.bool,Kd.int .u32,Kd.int .u32,Kd.lst [Kd.int .u32],Kd.lst [Kd.int .i64,Kd.lst [Kd.int .u8]],Kd.bool],Pk.bool]
def Zbon (l0:List (TyL1)) (p1:UInt32×Int) (i6:Int) (c0:Int) (c1:Int) (c2:Int) (c3:List (Bool×List UInt32)) (c4:Int) (c5:Bool) (c6:Int) (c7:Bool) (c8:Int) (c9:Bool) (c10:Bool) (c11:Int) (c12:Int) (c13:List UInt32) (c14:List (Int×List UInt8)) (c15:Bool) (next2:(Int×Int×Int×Int×List (Bool×List UInt32)×Int×Bool×Int×Bool×Int×Bool×Bool×Int×Int×List UInt32×List (Int×List UInt8)×Bool×Unit)->Prop) (K:(TyL1)->Bool->Prop):Prop:=
 IfB (decide ((i6:Int)<(l0.length:Int)))
 ((0:Int) <= i6∧AtN l0 i6.toNat fun x15=>
 WfT ks_7 x15->
 IfB ((((x15.1.toNat:Int):Int)==(p1.1.toNat:Int))&&(((x15.2.1:Int)==p1.2)&&true))
 ((0:Int) <= i6∧AtN l0 i6.toNat fun x22=>
 WfT ks_7 x22->
 K ((ofI .u32 (x22.1.toNat:Int)),x22.2.1,x22.2.2.1,x22.2.2.2.1,(ofI .u32 (x22.q.1.toNat:Int)),x22.q.2.1,(ofI .u32 (x22.q.2.2.1.toNat:Int)),x22.q.2.2.2.1,(ofI .u32 (x22.q.q.1.toNat:Int)),x22.q.q.2.1,x22.q.q.2.2.1,(ofI .u32 (x22.q.q.2.2.2.1.toNat:Int)),(ofI .u32 (x22.q.q.q.1.toNat:Int)),x22.q.q.q.2.1,x22.q.q.q.2.2.1,x22.q.q.q.2.2.2) true)
 (next2 ((IntKind.wrap .i64 (i6+1)),c0,c1,c2,c3,c4,c5,c6,c7,c8,c9,c10,c11,c12,c13,c14,c15,())))
 (K ((ofI .u32 0),0,0,([]:List (Bool×List UInt32)),(ofI .u32 0),false,(ofI .u32 0),false,(ofI .u32 0),false,false,(ofI .u32 0),(ofI .u32 0),([]:List UInt32),([]:List (Int×List UInt8)),false) false)
def Zrp (l0:List (TyL1)) (p1:UInt32×Int) (K:(TyL1)->Bool->Prop):Prop:=
 Zl (Int×Int×Int×Int×List (Bool×List UInt32)×Int×Bool×Int×Bool×Int×Bool×Bool×Int×Int×List UInt32×List (Int×List UInt8)×Bool×Unit) ((0:Int),(0:Int),(0:Int),(0:Int),([]:List (Bool×List UInt32)),(0:Int),false,(0:Int),false,(0:Int),false,false,(0:Int),(0:Int),([]:List UInt32),([]:List (Int×List UInt8)),false,()) fun y next=>
 WfY Zcef.kinds y->
 Zbon l0 p1 y.1 y.2.1 y.2.2.1 y.2.2.2.1 y.q.1 y.q.2.1 y.q.2.2.1 y.q.2.2.2.1 y.q.q.1 y.q.q.2.1 y.q.q.2.2.1 y.q.q.2.2.2.1 y.q.q.q.1 y.q.q.q.2.1 y.q.q.q.2.2.1 y.q.q.q.2.2.2.1 y.q.q.q.q.1 next K
noncomputable def Zdgi:Tab:=⟨[],[]⟩
abbrev Zbsn (x:PkTs Zsh) (K:PkTs Zse->Prop):Prop:=Zrp x.1 x.2.1 (fun r0 r1=>K (r0,r1,()))
theorem Zcyg:FnQ Tryz.prog Zbad Zsh Zse Zbsn:=(Zm Zcuv (tab:=Zdgi) ⟨trivial,trivial⟩ rfl).of_eq (by kernel_rfl)
noncomputable def Zchm:Ct:=Zbq Zsh Zse Zbsn
theorem Zdfq:Zk Tryz.prog Zbad Zchm:=Zbt Zcyg
def Zcle:PLoop:=⟨[(5,PK.int .i64)],[0,1],[]⟩
def Zbvw:PLoop:=⟨[(6,PK.int .i64)],[0,1,5],[]⟩
def Zcpn:PPlan:=⟨[],[(4,Zcle),(9,Zbvw)],[],[],[],[]⟩
theorem Zdiu:Known Tryz.prog Zbdc Tryz.f29 Zcpn.plan (Zg Tryz.f29):=by refine ⟨Tryz.func29,?_,?_,?_,?_,?_⟩<;>kernel_rfl
abbrev Zbgz:List Pk:=[Pk.lst [Kd.bool,Kd.lst [Kd.int .u32]],Pk.lst [Kd.bool,Kd.lst [Kd.int .u32]]]
abbrev Zwa:List Pk:=[Pk.bool]
def Zbns (a0:List (Bool×List UInt32)) (b1:List (Bool×List UInt32)) (i5:Int) (next4:(Int×Unit)->Prop) (k6:Int) (next9:(Int×Unit)->Prop) (K:Bool->Prop):Prop:=
 (0:Int) <= i5∧AtN a0 i5.toNat fun x47=>
 WfT Zdf x47->
 IfB (decide ((k6:Int)<(x47.2.length:Int)))
 ((0:Int) <= i5∧AtN a0 i5.toNat fun x56=>
 WfT Zdf x56->
 (0:Int) <= k6∧AtN x56.2 k6.toNat fun x60=>
 WfT Zio x60->
 (0:Int) <= i5∧AtN b1 i5.toNat fun x64=>
 WfT Zdf x64->
 (0:Int) <= k6∧AtN x64.2 k6.toNat fun x68=>
 WfT Zio x68->
 IfB (((x60.toNat:Int):Int) !=(x68.toNat:Int))
 (K false)
 (next9 ((IntKind.wrap .i64 (k6+1)),())))
 (next4 ((IntKind.wrap .i64 (i5+1)),()))
def Zxq (a0:List (Bool×List UInt32)) (b1:List (Bool×List UInt32)) (i5:Int) (next4:(Int×Unit)->Prop) (j3:Bool) (K:Bool->Prop):Prop:=
 IfB j3
 (K false)
 (Zl (Int×Unit) ((0:Int),()) fun y next=>
 WfY Zbvw.kinds y->
 Zbns a0 b1 i5 next4 y.1 next K)
def Zbpi (a0:List (Bool×List UInt32)) (b1:List (Bool×List UInt32)) (i5:Int) (next4:(Int×Unit)->Prop) (K:Bool->Prop):Prop:=
 IfB (decide ((i5:Int)<(a0.length:Int)))
 ((0:Int) <= i5∧AtN a0 i5.toNat fun x20=>
 WfT Zdf x20->
 (0:Int) <= i5∧AtN b1 i5.toNat fun x25=>
 WfT Zdf x25->
 IfB (!(x20.1==x25.1))
 (Zxq a0 b1 i5 next4 true K)
 ((0:Int) <= i5∧AtN a0 i5.toNat fun x32=>
 WfT Zdf x32->
 (0:Int) <= i5∧AtN b1 i5.toNat fun x38=>
 WfT Zdf x38->
 Zxq a0 b1 i5 next4 (((x32.2.length:Int):Int) !=(x38.2.length:Int)) K))
 (K true)
def Zbhl (a0:List (Bool×List UInt32)) (b1:List (Bool×List UInt32)) (K:Bool->Prop):Prop:=
 IfB (((a0.length:Int):Int) !=(b1.length:Int))
 (K false)
 (Zl (Int×Unit) ((0:Int),()) fun y next=>
 WfY Zcle.kinds y->
 Zbpi a0 b1 y.1 next K)
noncomputable def Zcow:Tab:=⟨[],[]⟩
abbrev Zcal (x:PkTs Zbgz) (K:PkTs Zwa->Prop):Prop:=Zbhl x.1 x.2.1 (fun r0=>K (r0,()))
theorem Zcus:FnQ Tryz.prog Zbdc Zbgz Zwa Zcal:=(Zm Zdiu (tab:=Zcow) ⟨trivial,trivial⟩ rfl).of_eq (by kernel_rfl)
noncomputable def Zbtp:Ct:=ctRd Zbgz Zwa Zcal
theorem Zcpk:Zk Tryz.prog Zbdc Zbtp:=Zbk Zcus
def Zcez:PLoop:=⟨[(5,PK.int .i64)],[2,3],[]⟩
def Zcjx:PLoop:=⟨[(6,PK.int .i64)],[2,3],[]⟩
def Zctz:PPlan:=⟨[],[(4,Zcez),(9,Zcjx)],[],[],[],[]⟩
theorem Zdbs:Known Tryz.prog Zbaj Tryz.f11 Zctz.plan (Zg Tryz.f11):=by refine ⟨Tryz.func11,?_,?_,?_,?_,?_⟩<;>kernel_rfl
abbrev Zbaa:List Pk:=[Pk.agg [Kd.int .i64,Kd.lst [Kd.bool,Kd.lst [Kd.int .u32]],Kd.int .u32,Kd.bool,Kd.int .u32,Kd.bool,Kd.int .u32,Kd.bool,Kd.bool,Kd.int .u32,Kd.int .u32,Kd.lst [Kd.int .u32],Kd.lst [Kd.int .i64,Kd.lst [Kd.int .u8]]],Pk.agg [Kd.int .i64,Kd.lst [Kd.bool,Kd.lst [Kd.int .u32]],Kd.int .u32,Kd.bool,Kd.int .u32,Kd.bool,Kd.int .u32,Kd.bool,Kd.bool,Kd.int .u32,Kd.int .u32,Kd.lst [Kd.int .u32],Kd.lst [Kd.int .i64,Kd.lst [Kd.int .u8]]]]
abbrev Zyv:List Pk:=[Pk.bool]
def Zbei (a0:TyL2) (b1:TyL2) (i6:Int) (next9:(Int×Unit)->Prop) (j27:Bool) (K:Bool->Prop):Prop:=
 IfB j27
 (K false)
 (next9 ((IntKind.wrap .i64 (i6+1)),()))
def Zbmj (a0:TyL2) (b1:TyL2) (i6:Int) (next9:(Int×Unit)->Prop) (K:Bool->Prop):Prop:=
 IfB (decide ((i6:Int)<(a0.q.q.q.length:Int)))
 ((0:Int) <= i6∧AtN a0.q.q.q i6.toNat fun x141=>
 WfT Zgm x141->
 (0:Int) <= i6∧AtN b1.q.q.q i6.toNat fun x147=>
 WfT Zgm x147->
 IfB ((x141.1:Int) !=x147.1)
 (Zbei a0 b1 i6 next9 true K)
 ((0:Int) <= i6∧AtN a0.q.q.q i6.toNat fun x155=>
 WfT Zgm x155->
 (0:Int) <= i6∧AtN b1.q.q.q i6.toNat fun x162=>
 WfT Zgm x162->
 Zbei a0 b1 i6 next9 (!(x155.2==x162.2)) K))
 (K true)
def Zbqi (a0:TyL2) (b1:TyL2) (i5:Int) (next4:(Int×Unit)->Prop) (K:Bool->Prop):Prop:=
 IfB (decide ((i5:Int)<(a0.q.q.2.2.2.1.length:Int)))
 ((0:Int) <= i5∧AtN a0.q.q.2.2.2.1 i5.toNat fun x123=>
 WfT Zio x123->
 (0:Int) <= i5∧AtN b1.q.q.2.2.2.1 i5.toNat fun x128=>
 WfT Zio x128->
 IfB (((x123.toNat:Int):Int) !=(x128.toNat:Int))
 (K false)
 (next4 ((IntKind.wrap .i64 (i5+1)),())))
 (Zl (Int×Unit) ((0:Int),()) fun y next=>
 WfY Zcjx.kinds y->
 Zbmj a0 b1 y.1 next K)
def Zbd (a0:TyL2) (b1:TyL2) (j26:Bool) (K:Bool->Prop):Prop:=
 IfB j26
 (K false)
 (Zl (Int×Unit) ((0:Int),()) fun y next=>
 WfY Zcez.kinds y->
 Zbqi a0 b1 y.1 next K)
def Zbgo (a0:TyL2) (b1:TyL2) (K:Bool->Prop):Prop:=
 IfB ((a0.1:Int) !=b1.1)
 (Zbd a0 b1 true K)
 ((WfPs Zbgz (a0.2.1,b1.2.1,())->
 Zbhl a0.2.1 b1.2.1 (fun x17=>
 WfPs Zwa (x17,())->
 IfB (!x17)
 (Zbd a0 b1 true K)
 (IfB (((a0.2.2.1.toNat:Int):Int) !=(b1.2.2.1.toNat:Int))
 (Zbd a0 b1 true K)
 (IfB (!(a0.2.2.2.1==b1.2.2.2.1))
 (Zbd a0 b1 true K)
 (IfB a0.2.2.2.1
 (IfB (((a0.q.1.toNat:Int):Int) !=(b1.q.1.toNat:Int))
 (Zbd a0 b1 true K)
 (IfB (!(a0.q.2.1==b1.q.2.1))
 (Zbd a0 b1 true K)
 (IfB a0.q.2.1
 (IfB (((a0.q.2.2.1.toNat:Int):Int) !=(b1.q.2.2.1.toNat:Int))
 (Zbd a0 b1 true K)
 (IfB (!(a0.q.2.2.2.1==b1.q.2.2.2.1))
 (Zbd a0 b1 true K)
 (IfB (!(a0.q.q.1==b1.q.q.1))
 (Zbd a0 b1 true K)
 (IfB a0.q.q.1
 (IfB (((a0.q.q.2.1.toNat:Int):Int) !=(b1.q.q.2.1.toNat:Int))
 (Zbd a0 b1 true K)
 (IfB (((a0.q.q.2.2.1.toNat:Int):Int) !=(b1.q.q.2.2.1.toNat:Int))
 (Zbd a0 b1 true K)
 (IfB (((a0.q.q.2.2.2.1.length:Int):Int) !=(b1.q.q.2.2.2.1.length:Int))
 (Zbd a0 b1 true K)
 (Zbd a0 b1 (((a0.q.q.q.length:Int):Int) !=(b1.q.q.q.length:Int)) K))))
 (IfB (((a0.q.q.2.2.2.1.length:Int):Int) !=(b1.q.q.2.2.2.1.length:Int))
 (Zbd a0 b1 true K)
 (Zbd a0 b1 (((a0.q.q.q.length:Int):Int) !=(b1.q.q.q.length:Int)) K))))))
 (IfB (!(a0.q.2.2.2.1==b1.q.2.2.2.1))
 (Zbd a0 b1 true K)
 (IfB (!(a0.q.q.1==b1.q.q.1))
 (Zbd a0 b1 true K)
 (IfB a0.q.q.1
 (IfB (((a0.q.q.2.1.toNat:Int):Int) !=(b1.q.q.2.1.toNat:Int))
 (Zbd a0 b1 true K)
 (IfB (((a0.q.q.2.2.1.toNat:Int):Int) !=(b1.q.q.2.2.1.toNat:Int))
 (Zbd a0 b1 true K)
 (IfB (((a0.q.q.2.2.2.1.length:Int):Int) !=(b1.q.q.2.2.2.1.length:Int))
 (Zbd a0 b1 true K)
 (Zbd a0 b1 (((a0.q.q.q.length:Int):Int) !=(b1.q.q.q.length:Int)) K))))
 (IfB (((a0.q.q.2.2.2.1.length:Int):Int) !=(b1.q.q.2.2.2.1.length:Int))
 (Zbd a0 b1 true K)
 (Zbd a0 b1 (((a0.q.q.q.length:Int):Int) !=(b1.q.q.q.length:Int)) K))))))))
 (IfB (!(a0.q.2.1==b1.q.2.1))
 (Zbd a0 b1 true K)
 (IfB a0.q.2.1
 (IfB (((a0.q.2.2.1.toNat:Int):Int) !=(b1.q.2.2.1.toNat:Int))
 (Zbd a0 b1 true K)
 (IfB (!(a0.q.2.2.2.1==b1.q.2.2.2.1))
 (Zbd a0 b1 true K)
 (IfB (!(a0.q.q.1==b1.q.q.1))
 (Zbd a0 b1 true K)
 (IfB a0.q.q.1
 (IfB (((a0.q.q.2.1.toNat:Int):Int) !=(b1.q.q.2.1.toNat:Int))
 (Zbd a0 b1 true K)
 (IfB (((a0.q.q.2.2.1.toNat:Int):Int) !=(b1.q.q.2.2.1.toNat:Int))
 (Zbd a0 b1 true K)
 (IfB (((a0.q.q.2.2.2.1.length:Int):Int) !=(b1.q.q.2.2.2.1.length:Int))
 (Zbd a0 b1 true K)
 (Zbd a0 b1 (((a0.q.q.q.length:Int):Int) !=(b1.q.q.q.length:Int)) K))))
 (IfB (((a0.q.q.2.2.2.1.length:Int):Int) !=(b1.q.q.2.2.2.1.length:Int))
 (Zbd a0 b1 true K)
 (Zbd a0 b1 (((a0.q.q.q.length:Int):Int) !=(b1.q.q.q.length:Int)) K))))))
 (IfB (!(a0.q.2.2.2.1==b1.q.2.2.2.1))
 (Zbd a0 b1 true K)
 (IfB (!(a0.q.q.1==b1.q.q.1))
 (Zbd a0 b1 true K)
 (IfB a0.q.q.1
 (IfB (((a0.q.q.2.1.toNat:Int):Int) !=(b1.q.q.2.1.toNat:Int))
 (Zbd a0 b1 true K)
 (IfB (((a0.q.q.2.2.1.toNat:Int):Int) !=(b1.q.q.2.2.1.toNat:Int))
 (Zbd a0 b1 true K)
 (IfB (((a0.q.q.2.2.2.1.length:Int):Int) !=(b1.q.q.2.2.2.1.length:Int))
 (Zbd a0 b1 true K)
 (Zbd a0 b1 (((a0.q.q.q.length:Int):Int) !=(b1.q.q.q.length:Int)) K))))
 (IfB (((a0.q.q.2.2.2.1.length:Int):Int) !=(b1.q.q.2.2.2.1.length:Int))
 (Zbd a0 b1 true K)
 (Zbd a0 b1 (((a0.q.q.q.length:Int):Int) !=(b1.q.q.q.length:Int)) K)))))))))))))
noncomputable def Zcrl:Tab:=⟨[(Zbdc,Zbtp)],[]⟩
abbrev Zcir (x:PkTs Zbaa) (K:PkTs Zyv->Prop):Prop:=Zbgo x.1 x.2.1 (fun r0=>K (r0,()))
theorem Zdff:FnQ Tryz.prog Zbaj Zbaa Zyv Zcir:=(Zm Zdbs (tab:=Zcrl) ⟨⟨Zcpk,trivial⟩,trivial⟩ rfl).of_eq (by kernel_rfl)
noncomputable def Zbxe:Ct:=ctRd Zbaa Zyv Zcir
theorem Zctr:Zk Tryz.prog Zbaj Zbxe:=Zbk Zdff
def Zbug:PLoop:=⟨[(0,PK.row Zbr [Kd.int .u32,Kd.int .i64,Kd.int .i64,Kd.lst [Kd.bool,Kd.lst [Kd.int .u32]],Kd.int .u32,Kd.bool,Kd.int .u32,Kd.bool,Kd.int .u32,Kd.bool,Kd.bool,Kd.int .u32,Kd.int .u32,Kd.lst [Kd.int .u32],Kd.lst [Kd.int .i64,Kd.lst [Kd.int .u8]],Kd.bool]),(5,PK.row Zbr [Kd.int .u32,Kd.int .i64,Kd.int .i64,Kd.lst [Kd.bool,Kd.lst [Kd.int .u32]],Kd.int .u32,Kd.bool,Kd.int .u32,Kd.bool,Kd.int .u32,Kd.bool,Kd.bool,Kd.int .u32,Kd.int .u32,Kd.lst [Kd.int .u32],Kd.lst [Kd.int .i64,Kd.lst [Kd.int .u8]],Kd.bool]),(6,PK.int .i64)],[1],[]⟩
def Zcdx:PLoop:=⟨[(0,PK.row Zbr [Kd.int .u32,Kd.int .i64,Kd.int .i64,Kd.lst [Kd.bool,Kd.lst [Kd.int .u32]],Kd.int .u32,Kd.bool,Kd.int .u32,Kd.bool,Kd.int .u32,Kd.bool,Kd.bool,Kd.int .u32,Kd.int .u32,Kd.lst [Kd.int .u32],Kd.lst [Kd.int .i64,Kd.lst [Kd.int .u8]],Kd.bool]),(7,PK.bool),(8,PK.int .i64)],[1,5,6],[]⟩
def Zbtc:PLoop:=⟨[(12,PK.int .i64),(13,PK.int .i64)],[1,5,9,11],[(11,[PK.lst [Kd.int .u8],PK.bool,PK.bool])]⟩
def Zbqu:PLoop:=⟨[(12,PK.int .i64),(20,PK.int .i64)],[1,5,9,11,13,17],[]⟩
def Zchp:PLoop:=⟨[(12,PK.int .i64),(23,PK.int .i64)],[1,5,9,11,13,17],[]⟩
def Zcss:PPlan:=⟨[],[(6,Zbug),(10,Zcdx),(22,Zbtc),(31,Zbqu),(38,Zchp)],[],[],[],[]⟩
theorem Zcpi:Known Tryz.prog Zcca Tryz.f3 Zcss.plan (Zg Tryz.f3):=by refine ⟨Tryz.func3,?_,?_,?_,?_,?_⟩<;>kernel_rfl
abbrev Zbqp:List Pk:=[Pk.lst [Kd.int .u32,Kd.int .i64,Kd.int .i64,Kd.lst [Kd.bool,Kd.lst [Kd.int .u32]],Kd.int .u32,Kd.bool,Kd.int .u32,Kd.bool,Kd.int .u32,Kd.bool,Kd.bool,Kd.int .u32,Kd.int .u32,Kd.lst [Kd.int .u32],Kd.lst [Kd.int .i64,Kd.lst [Kd.int .u8]],Kd.bool],Pk.bool]
abbrev Zbvi:List Pk:=[Pk.bool]
def Zbcb (l0_2:List (TyL1)) (four1:Bool) (left5:List (TyL1)) (i6:Int) (k8:Int) (next6:(List (TyL1)×List (TyL1)×Int×Unit)->Prop) (next10:(List (TyL1)×Bool×Int×Unit)->Prop) (j4:Bool) (K:Bool->Prop):Prop:=
 next10 (l0_2,j4,(IntKind.wrap .i64 (k8+1)),())
def Zbgk (j0:List (TyL1)) (four1:Bool) (i6:Int) (next6:(List (TyL1)×List (TyL1)×Int×Unit)->Prop) (j2:List (TyL1)) (K:Bool->Prop):Prop:=
 next6 (j0,j2,(IntKind.wrap .i64 (i6+1)),())
def Zya (four1:Bool) (left5:List (TyL1)) (i6:Int) (twice7:Bool) (next6:(List (TyL1)×List (TyL1)×Int×Unit)->Prop) (j0:List (TyL1)) (K:Bool->Prop):Prop:=
 IfB (!twice7)
 ((0:Int) <= i6∧i6<(j0.length:Int)∧
 AtN j0 i6.toNat fun x82=>
 WfT ks_7 x82->
 left5.length+([((ofI .u32 (x82.1.toNat:Int)),x82.2.1,x82.2.2.1,x82.2.2.2.1,(ofI .u32 (x82.q.1.toNat:Int)),x82.q.2.1,(ofI .u32 (x82.q.2.2.1.toNat:Int)),x82.q.2.2.2.1,(ofI .u32 (x82.q.q.1.toNat:Int)),x82.q.q.2.1,x82.q.q.2.2.1,(ofI .u32 (x82.q.q.2.2.2.1.toNat:Int)),(ofI .u32 (x82.q.q.q.1.toNat:Int)),x82.q.q.q.2.1,x82.q.q.q.2.2.1,x82.q.q.q.2.2.2)]:List (TyL1)).length <= 1034834473104∧
 Zbgk j0 four1 i6 next6 (left5++([((ofI .u32 (x82.1.toNat:Int)),x82.2.1,x82.2.2.1,x82.2.2.2.1,(ofI .u32 (x82.q.1.toNat:Int)),x82.q.2.1,(ofI .u32 (x82.q.2.2.1.toNat:Int)),x82.q.2.2.2.1,(ofI .u32 (x82.q.q.1.toNat:Int)),x82.q.q.2.1,x82.q.q.2.2.1,(ofI .u32 (x82.q.q.2.2.2.1.toNat:Int)),(ofI .u32 (x82.q.q.q.1.toNat:Int)),x82.q.q.q.2.1,x82.q.q.q.2.2.1,x82.q.q.q.2.2.2)]:List (TyL1))) K)
 (Zbgk j0 four1 i6 next6 left5 K)
def Zcjw (four1:Bool) (left5:List (TyL1)) (i6:Int) (next6:(List (TyL1)×List (TyL1)×Int×Unit)->Prop) (l0_2:List (TyL1)) (twice7:Bool) (k8:Int) (next10:(List (TyL1)×Bool×Int×Unit)->Prop) (K:Bool->Prop):Prop:=
 IfB (decide ((k8:Int)<(left5.length:Int)))
 (IfB twice7
 (Zbcb l0_2 four1 left5 i6 k8 next6 next10 true K)
 ((0:Int) <= k8∧k8<(left5.length:Int)∧
 AtN left5 k8.toNat fun x49=>
 WfT ks_7 x49->
 (0:Int) <= i6∧i6<(l0_2.length:Int)∧
 AtN l0_2 i6.toNat fun x54=>
 WfT ks_7 x54->
 Zbcb l0_2 four1 left5 i6 k8 next6 next10 ((((x49.1.toNat:Int):Int)==(x54.1.toNat:Int))&&(((x49.2.1:Int)==x54.2.1)&&true)) K))
 ((0:Int) <= i6∧i6<(l0_2.length:Int)∧
 AtN l0_2 i6.toNat fun x66=>
 WfT ks_7 x66->
 IfB x66.q.q.2.2.1
 ((0:Int) <= i6∧i6<(l0_2.length:Int)∧
 AtN l0_2 i6.toNat fun el=>
 WfT ks_7 el->
 (0:Int) <= i6∧i6<((l0_2.set i6.toNat ((ofI .u32 (el.1.toNat:Int)),el.2.1,el.2.2.1,el.2.2.2.1,(ofI .u32 (el.q.1.toNat:Int)),el.q.2.1,(ofI .u32 (el.q.2.2.1.toNat:Int)),false,(ofI .u32 (el.q.q.1.toNat:Int)),el.q.q.2.1,el.q.q.2.2.1,(ofI .u32 (el.q.q.2.2.2.1.toNat:Int)),(ofI .u32 (el.q.q.q.1.toNat:Int)),el.q.q.q.2.1,el.q.q.q.2.2.1,el.q.q.q.2.2.2)).length:Int)∧
 AtN (l0_2.set i6.toNat ((ofI .u32 (el.1.toNat:Int)),el.2.1,el.2.2.1,el.2.2.2.1,(ofI .u32 (el.q.1.toNat:Int)),el.q.2.1,(ofI .u32 (el.q.2.2.1.toNat:Int)),false,(ofI .u32 (el.q.q.1.toNat:Int)),el.q.q.2.1,el.q.q.2.2.1,(ofI .u32 (el.q.q.2.2.2.1.toNat:Int)),(ofI .u32 (el.q.q.q.1.toNat:Int)),el.q.q.q.2.1,el.q.q.q.2.2.1,el.q.q.q.2.2.2)) i6.toNat fun el_1=>
 WfT ks_7 el_1->
 Zya four1 left5 i6 twice7 next6 ((l0_2.set i6.toNat ((ofI .u32 (el.1.toNat:Int)),el.2.1,el.2.2.1,el.2.2.2.1,(ofI .u32 (el.q.1.toNat:Int)),el.q.2.1,(ofI .u32 (el.q.2.2.1.toNat:Int)),false,(ofI .u32 (el.q.q.1.toNat:Int)),el.q.q.2.1,el.q.q.2.2.1,(ofI .u32 (el.q.q.2.2.2.1.toNat:Int)),(ofI .u32 (el.q.q.q.1.toNat:Int)),el.q.q.q.2.1,el.q.q.q.2.2.1,el.q.q.q.2.2.2)).set i6.toNat ((ofI .u32 (el_1.1.toNat:Int)),el_1.2.1,el_1.2.2.1,el_1.2.2.2.1,(ofI .u32 (el_1.q.1.toNat:Int)),el_1.q.2.1,(ofI .u32 (el_1.q.2.2.1.toNat:Int)),el_1.q.2.2.2.1,(ofI .u32 (el_1.q.q.1.toNat:Int)),el_1.q.q.2.1,four1,(ofI .u32 (el_1.q.q.2.2.2.1.toNat:Int)),(ofI .u32 (el_1.q.q.q.1.toNat:Int)),el_1.q.q.q.2.1,el_1.q.q.q.2.2.1,el_1.q.q.q.2.2.2)) K)
 ((0:Int) <= i6∧i6<(l0_2.length:Int)∧
 AtN l0_2 i6.toNat fun el_2=>
 WfT ks_7 el_2->
 (0:Int) <= i6∧i6<((l0_2.set i6.toNat ((ofI .u32 (el_2.1.toNat:Int)),el_2.2.1,el_2.2.2.1,el_2.2.2.2.1,(ofI .u32 (el_2.q.1.toNat:Int)),el_2.q.2.1,(ofI .u32 (el_2.q.2.2.1.toNat:Int)),false,(ofI .u32 (el_2.q.q.1.toNat:Int)),el_2.q.q.2.1,el_2.q.q.2.2.1,(ofI .u32 (el_2.q.q.2.2.2.1.toNat:Int)),(ofI .u32 (el_2.q.q.q.1.toNat:Int)),el_2.q.q.q.2.1,el_2.q.q.q.2.2.1,el_2.q.q.q.2.2.2)).length:Int)∧
 AtN (l0_2.set i6.toNat ((ofI .u32 (el_2.1.toNat:Int)),el_2.2.1,el_2.2.2.1,el_2.2.2.2.1,(ofI .u32 (el_2.q.1.toNat:Int)),el_2.q.2.1,(ofI .u32 (el_2.q.2.2.1.toNat:Int)),false,(ofI .u32 (el_2.q.q.1.toNat:Int)),el_2.q.q.2.1,el_2.q.q.2.2.1,(ofI .u32 (el_2.q.q.2.2.2.1.toNat:Int)),(ofI .u32 (el_2.q.q.q.1.toNat:Int)),el_2.q.q.q.2.1,el_2.q.q.q.2.2.1,el_2.q.q.q.2.2.2)) i6.toNat fun el_3=>
 WfT ks_7 el_3->
 Zya four1 left5 i6 twice7 next6 ((l0_2.set i6.toNat ((ofI .u32 (el_2.1.toNat:Int)),el_2.2.1,el_2.2.2.1,el_2.2.2.2.1,(ofI .u32 (el_2.q.1.toNat:Int)),el_2.q.2.1,(ofI .u32 (el_2.q.2.2.1.toNat:Int)),false,(ofI .u32 (el_2.q.q.1.toNat:Int)),el_2.q.q.2.1,el_2.q.q.2.2.1,(ofI .u32 (el_2.q.q.2.2.2.1.toNat:Int)),(ofI .u32 (el_2.q.q.q.1.toNat:Int)),el_2.q.q.q.2.1,el_2.q.q.q.2.2.1,el_2.q.q.q.2.2.2)).set i6.toNat ((ofI .u32 (el_3.1.toNat:Int)),el_3.2.1,el_3.2.2.1,el_3.2.2.2.1,(ofI .u32 (el_3.q.1.toNat:Int)),el_3.q.2.1,(ofI .u32 (el_3.q.2.2.1.toNat:Int)),el_3.q.2.2.2.1,(ofI .u32 (el_3.q.q.1.toNat:Int)),el_3.q.q.2.1,false,(ofI .u32 (el_3.q.q.2.2.2.1.toNat:Int)),(ofI .u32 (el_3.q.q.q.1.toNat:Int)),el_3.q.q.q.2.1,el_3.q.q.q.2.2.1,el_3.q.q.q.2.2.2)) K))
def Zbrd (four1:Bool) (left5:List (TyL1)) (x88r0:List (List UInt8)) (ox1090:List UInt8) (ox1091:Bool) (ox1092:Bool) (n12_1:Int) (i13:Int) (x133r0:List (UInt32×Int)×List (UInt32×Int)×TyL3) (j20:Int) (next22:(Int×Int×List UInt8×Bool×Bool×Unit)->Prop) (next31:(Int×Int×Unit)->Prop) (j25:Bool) (K:Bool->Prop):Prop:=
 IfB j25
 (K false)
 (next31 ((IntKind.wrap .i64 (n12_1+1)),(IntKind.wrap .i64 (j20+1)),()))
def Zzp (four1:Bool) (left5:List (TyL1)) (x88r0:List (List UInt8)) (ox1090:List UInt8) (ox1091:Bool) (ox1092:Bool) (n12_2:Int) (i13:Int) (x133r0:List (UInt32×Int)×List (UInt32×Int)×TyL3) (j23:Int) (next22:(Int×Int×List UInt8×Bool×Bool×Unit)->Prop) (next38:(Int×Int×Unit)->Prop) (j25_1:Bool) (K:Bool->Prop):Prop:=
 IfB j25_1
 (K false)
 (next38 ((IntKind.wrap .i64 (n12_2+1)),(IntKind.wrap .i64 (j23+1)),()))
def Zbjv (four1:Bool) (left5:List (TyL1)) (x88r0:List (List UInt8)) (ox1090:List UInt8) (ox1091:Bool) (ox1092:Bool) (i13:Int) (x133r0:List (UInt32×Int)×List (UInt32×Int)×TyL3) (next22:(Int×Int×List UInt8×Bool×Bool×Unit)->Prop) (n12_2:Int) (j23:Int) (next38:(Int×Int×Unit)->Prop) (K:Bool->Prop):Prop:=
 IfB (decide ((j23:Int)<(x133r0.2.1.length:Int)))
 ((0:Int) <= j23∧AtN x133r0.2.1 j23.toNat fun x178=>
 WfT Zmq x178->
 (WfPs Zsh (left5,(((ofI .u32 (x178.1.toNat:Int)),x178.2):UInt32×Int),())->
 Zrp left5 (((ofI .u32 (x178.1.toNat:Int)),x178.2):UInt32×Int) (fun x180r0 x180r1=>
 WfPs Zse (x180r0,x180r1,())->
 IfB (!x180r1)
 (Zzp four1 left5 x88r0 ox1090 ox1091 ox1092 n12_2 i13 x133r0 j23 next22 next38 true K)
 (IfB (!x180r0.q.q.q.2.2.2)
 (Zzp four1 left5 x88r0 ox1090 ox1091 ox1092 n12_2 i13 x133r0 j23 next22 next38 true K)
 ((WfPs Zbaa (((x180r0.2.2.1,x180r0.2.2.2.1,(ofI .u32 (x180r0.q.1.toNat:Int)),x180r0.q.2.1,(ofI .u32 (x180r0.q.2.2.1.toNat:Int)),x180r0.q.2.2.2.1,(ofI .u32 (x180r0.q.q.1.toNat:Int)),x180r0.q.q.2.1,x180r0.q.q.2.2.1,(ofI .u32 (x180r0.q.q.2.2.2.1.toNat:Int)),(ofI .u32 (x180r0.q.q.q.1.toNat:Int)),x180r0.q.q.q.2.1,x180r0.q.q.q.2.2.1):TyL2),((x133r0.2.2.1,x133r0.2.2.2.1,(ofI .u32 (x133r0.q.1.toNat:Int)),x133r0.q.2.1,(ofI .u32 (x133r0.q.2.2.1.toNat:Int)),x133r0.q.2.2.2.1,(ofI .u32 (x133r0.q.q.1.toNat:Int)),x133r0.q.q.2.1,x133r0.q.q.2.2.1,(ofI .u32 (x133r0.q.q.2.2.2.1.toNat:Int)),(ofI .u32 (x133r0.q.q.q.1.toNat:Int)),x133r0.q.q.q.2.1,x133r0.q.q.q.2.2.1):TyL2),())->
 Zbgo ((x180r0.2.2.1,x180r0.2.2.2.1,(ofI .u32 (x180r0.q.1.toNat:Int)),x180r0.q.2.1,(ofI .u32 (x180r0.q.2.2.1.toNat:Int)),x180r0.q.2.2.2.1,(ofI .u32 (x180r0.q.q.1.toNat:Int)),x180r0.q.q.2.1,x180r0.q.q.2.2.1,(ofI .u32 (x180r0.q.q.2.2.2.1.toNat:Int)),(ofI .u32 (x180r0.q.q.q.1.toNat:Int)),x180r0.q.q.q.2.1,x180r0.q.q.q.2.2.1):TyL2) ((x133r0.2.2.1,x133r0.2.2.2.1,(ofI .u32 (x133r0.q.1.toNat:Int)),x133r0.q.2.1,(ofI .u32 (x133r0.q.2.2.1.toNat:Int)),x133r0.q.2.2.2.1,(ofI .u32 (x133r0.q.q.1.toNat:Int)),x133r0.q.q.2.1,x133r0.q.q.2.2.1,(ofI .u32 (x133r0.q.q.2.2.2.1.toNat:Int)),(ofI .u32 (x133r0.q.q.q.1.toNat:Int)),x133r0.q.q.q.2.1,x133r0.q.q.q.2.2.1):TyL2) (fun x195=>
 WfPs Zyv (x195,())->
 Zzp four1 left5 x88r0 ox1090 ox1091 ox1092 n12_2 i13 x133r0 j23 next22 next38 (!x195) K)))))))
 (next22 (n12_2,(IntKind.wrap .i64 (i13+1)),ox1090,ox1091,ox1092,()))
def Zzq (four1:Bool) (left5:List (TyL1)) (x88r0:List (List UInt8)) (ox1090:List UInt8) (ox1091:Bool) (ox1092:Bool) (i13:Int) (x133r0:List (UInt32×Int)×List (UInt32×Int)×TyL3) (next22:(Int×Int×List UInt8×Bool×Bool×Unit)->Prop) (n12_1:Int) (j20:Int) (next31:(Int×Int×Unit)->Prop) (K:Bool->Prop):Prop:=
 IfB (decide ((j20:Int)<(x133r0.1.length:Int)))
 ((0:Int) <= j20∧AtN x133r0.1 j20.toNat fun x153=>
 WfT Zmq x153->
 (WfPs Zsh (left5,(((ofI .u32 (x153.1.toNat:Int)),x153.2):UInt32×Int),())->
 Zrp left5 (((ofI .u32 (x153.1.toNat:Int)),x153.2):UInt32×Int) (fun x155r0 x155r1=>
 WfPs Zse (x155r0,x155r1,())->
 IfB (!x155r1)
 (Zbrd four1 left5 x88r0 ox1090 ox1091 ox1092 n12_1 i13 x133r0 j20 next22 next31 true K)
 (Zbrd four1 left5 x88r0 ox1090 ox1091 ox1092 n12_1 i13 x133r0 j20 next22 next31 x155r0.q.q.q.2.2.2 K))))
 (Zl (Int×Int×Unit) (n12_1,(0:Int),()) fun y next=>
 WfY Zchp.kinds y->
 Zbjv four1 left5 x88r0 ox1090 ox1091 ox1092 i13 x133r0 next22 y.1 y.2.1 next K)
def Zyr (four1:Bool) (left5:List (TyL1)) (x88r0:List (List UInt8)) (ox1090:List UInt8) (ox1091:Bool) (ox1092:Bool) (n12:Int) (i13:Int) (x109r0:List (Int×List UInt8)) (next22:(Int×Int×List UInt8×Bool×Bool×Unit)->Prop) (j9:Bool) (K:Bool->Prop):Prop:=
 IfB j9
 (K false)
 ((0:Int) <= 0∧0<(x109r0.length:Int)∧
 AtN x109r0 0 fun x131=>
 WfT Zgm x131->
 (WfPs Zbcw (x131.2,four1,())->
 Zbbf x131.2 four1 (fun x133r0 x133r1 x133r2=>
 WfPs Zzh (x133r0,x133r1,x133r2,())->
 IfB (!x133r2)
 (K false)
 (Zl (Int×Int×Unit) (n12,(0:Int),()) fun y next=>
 WfY Zbqu.kinds y->
 Zzq four1 left5 x88r0 ox1090 ox1091 ox1092 i13 x133r0 next22 y.1 y.2.1 next K))))
def Zckk (four1:Bool) (left5:List (TyL1)) (x88r0:List (List UInt8)) (n12:Int) (i13:Int) (c0:List UInt8) (c1:Bool) (c2:Bool) (next22:(Int×Int×List UInt8×Bool×Bool×Unit)->Prop) (K:Bool->Prop):Prop:=
 IfB (decide ((i13:Int)<(x88r0.length:Int)))
 ((0:Int) <= i13∧i13<(x88r0.length:Int)∧
 AtN x88r0 i13.toNat fun x108=>
 WfT Zbkf x108->
 (WfY Zze (c0,c1,c2,())->
 WfPs Zbnh (x108,())->
 Ztl c0 c1 c2 x108 (fun ox1090 ox1091 ox1092 x109r0 x109r1 x109r2=>
 WfY Zze (ox1090,ox1091,ox1092,())->
 WfPs Zbpz (x109r0,x109r1,x109r2,())->
 IfB (!x109r2)
 (Zyr four1 left5 x88r0 ox1090 ox1091 ox1092 n12 i13 x109r0 next22 true K)
 (IfB (((x109r0.length:Int):Int) !=1)
 (Zyr four1 left5 x88r0 ox1090 ox1091 ox1092 n12 i13 x109r0 next22 true K)
 ((0:Int) <= 0∧0<(x109r0.length:Int)∧
 AtN x109r0 0 fun x124=>
 WfT Zgm x124->
 Zyr four1 left5 x88r0 ox1090 ox1091 ox1092 n12 i13 x109r0 next22 ((x124.1:Int) !=2) K)))))
 (K ((n12:Int)==(left5.length:Int)))
def Zckm (four1:Bool) (l0_1:List (TyL1)) (left5:List (TyL1)) (i6:Int) (next6:(List (TyL1)×List (TyL1)×Int×Unit)->Prop) (K:Bool->Prop):Prop:=
 IfB (decide ((i6:Int)<(l0_1.length:Int)))
 (Zl (List (TyL1)×Bool×Int×Unit) (l0_1,false,(0:Int),()) fun y next=>
 WfY Zcdx.kinds y->
 Zcjw four1 left5 i6 next6 y.1 y.2.1 y.2.2.1 next K)
 ((WfPs Zuh (left5,four1,())->
 Zux left5 four1 (fun x88r0 x88r1=>
 WfPs Ztb (x88r0,x88r1,())->
 IfB ((x88r1:Int) !=0)
 (K (((x88r0.length:Int):Int)==0))
 (Zl (Int×Int×List UInt8×Bool×Bool×Unit) ((0:Int),(0:Int),([]:List UInt8),true,false,()) fun y next=>
 WfY Zbtc.kinds y->
 Zckk four1 left5 x88r0 y.1 y.2.1 y.2.2.1 y.2.2.2.1 y.q.1 next K))))
def Zbmi (l0:List (TyL1)) (four1:Bool) (K:Bool->Prop):Prop:=
 (WfPs Zbfy (())->
 Zbdh (fun x26=>
 WfPs Zwh (x26,())->
 IfB (!x26)
 (K false)
 ((WfPs Zvu (l0,(40:Int),())->
 Zzi l0 (40:Int) (fun x29=>
 WfPs Zbez (x29,())->
 Zl (List (TyL1)×List (TyL1)×Int×Unit) (x29,([]:List (TyL1)),(0:Int),()) fun y next=>
 WfY Zbug.kinds y->
 Zckm four1 y.1 y.2.1 y.2.2.1 next K)))))
noncomputable def Zdcg:Tab:=⟨[(Zbai,Zbzg),(Zbhw,Zcfr),(Ztd,Zbqb),(Zblo,Zbxs),(Zxu,Zccg),(Zwy,Zbvs),(Zbad,Zchm),(Zbaj,Zbxe)],[]⟩
abbrev Zcsg (x:PkTs Zbqp) (K:PkTs Zbvi->Prop):Prop:=Zbmi x.1 x.2.1 (fun r0=>K (r0,()))
theorem Zcpu:FnQ Tryz.prog Zcca Zbqp Zbvi Zcsg:=(Zm Zcpi (tab:=Zdcg) ⟨⟨Zdif,Zcro,Zbua,Zcws,Zcvv,Zcyt,Zdfq,Zctr,trivial⟩,trivial⟩ rfl).of_eq (by kernel_rfl)
end Go.Proofs.YthhcfdpoiganhaaGreat
end
