/-
  EACH FUNCTION OVER PLAIN DATA: printed by a program of ours over this translation.
-/
import Derived.Test.YtboagabgpcghcaaGreatDoorQA
set_option linter.all false
set_option maxRecDepth 100000
set_option maxHeartbeats 4000000
namespace Go.Proofs.YtboagabgpcghcaaGreatDoor
open Go.Sh
abbrev Ty1 := Int × List (Bool × List UInt32) × UInt32 × Bool × UInt32 × Bool × UInt32 × Bool × Bool × UInt32 × UInt32 × List UInt32 × List (Int × List UInt8)
abbrev Zcy : PPlan := ⟨[], [], [], [], [], []⟩
abbrev Zjt : List Kd := [Kd.int .u32]
abbrev Zdc : List Kd := [Kd.bool, Kd.lst [Kd.int .u32]]
abbrev Zir : List Kd := [Kd.int .i64, Kd.lst [Kd.int .u8]]
abbrev Zbkb : List Kd := [Kd.lst [Kd.int .u8]]
abbrev Zdw : List Kd := [Kd.int .u8]
abbrev Zbwg : List Kd := [Kd.lst [Kd.int .u32]]
def Zbjd : PLoop := ⟨[(8, PK.int .i64)], [0, 1, 7], []⟩
def Zcte : PPlan := ⟨[], [(2, Zbjd)], [], [], [], []⟩
theorem Zcol : Known Tryz.prog Zss Tryz.f174 Zcte.plan (Zg Tryz.f174) := by refine ⟨Tryz.func174, ?_, ?_, ?_, ?_, ?_⟩ <;> kernel_rfl
abbrev Zze : List Pk := [Pk.lst [Kd.int .u32], Pk.int .u32]
abbrev Zyr : List Pk := [Pk.int .i64]
def Zbgq (s0 : List UInt32) (v1 : Int) (x8 : Int) (next2 : (Int × Unit) -> Prop) (K : Int -> Prop) : Prop :=
 IfB (decide ((x8 : Int) < (s0.length : Int)))
 ((0 : Int) <= x8 ∧ AtN s0 x8.toNat fun x14 =>
 WfT Zjt x14 ->
 IfB ((v1 : Int) == (x14.toNat : Int))
 (K x8)
 (next2 ((IntKind.wrap .i64 (x8 + 1)), ())))
 (K (-1))
def Zbbu (s0 : List UInt32) (v1 : Int) (K : Int -> Prop) : Prop :=
 Zm (Int × Unit) ((0 : Int), ()) fun y next =>
 WfY Zbjd.kinds y ->
 Zbgq s0 v1 y.1 next K
noncomputable def Zcbp : Tab := ⟨[], []⟩
abbrev Zbsk (x : PkTs Zze) (K : PkTs Zyr -> Prop) : Prop := Zbbu x.1 x.2.1 (fun r0 => K (r0, ()))
theorem Zbza : FnQ Tryz.prog Zss Zze Zyr Zbsk := (Zq Zcol (tab := Zcbp) ⟨trivial, trivial⟩ rfl).of_eq (by kernel_rfl)
noncomputable def Zbpg : Ct := ctRd Zze Zyr Zbsk
theorem Zbyh : Zk Tryz.prog Zss Zbpg := Zbw Zbza
theorem Zcvd : Known Tryz.prog Zuu Tryz.f160 Zcy.plan (Zg Tryz.f160) := by refine ⟨Tryz.func160, ?_, ?_, ?_, ?_, ?_⟩ <;> kernel_rfl
abbrev Zxr : List Pk := [Pk.lst [Kd.int .u32], Pk.int .u32]
abbrev Zyj : List Pk := [Pk.bool]
def Ztf (s0 : List UInt32) (v1 : Int) (K : Bool -> Prop) : Prop :=
 (WfPs Zze (s0, v1, ()) ->
 Zbbu s0 v1 (fun x7 =>
 WfPs Zyr (x7, ()) ->
 K (decide ((x7 : Int) ≥ 0))))
noncomputable def Zcht : Tab := ⟨[(Zss, Zbpg)], []⟩
abbrev Zbpb (x : PkTs Zxr) (K : PkTs Zyj -> Prop) : Prop := Ztf x.1 x.2.1 (fun r0 => K (r0, ()))
theorem Zcca : FnQ Tryz.prog Zuu Zxr Zyj Zbpb := (Zq Zcvd (tab := Zcht) ⟨⟨Zbyh, trivial⟩, trivial⟩ rfl).of_eq (by kernel_rfl)
noncomputable def Zbpl : Ct := ctRd Zxr Zyj Zbpb
theorem Zced : Zk Tryz.prog Zuu Zbpl := Zbw Zcca
theorem Zbys : Known Tryz.prog Zve Tryz.f133 Zcy.plan (Zg Tryz.f133) := by refine ⟨Tryz.func133, ?_, ?_, ?_, ?_, ?_⟩ <;> kernel_rfl
abbrev Zbam : List Pk := [Pk.agg [Kd.bool, Kd.lst [Kd.int .u32]]]
abbrev Ztk : List Pk := [Pk.bool]
def Zzj (s0 : Bool × List UInt32) (K : Bool -> Prop) : Prop :=
 IfB (decide (((s0.2.length : Int) : Int) > 0))
 (IfB (decide (((s0.2.length : Int) : Int) <= 255))
 ((WfPs Zxr (s0.2, (0 : Int), ()) ->
 Ztf s0.2 (0 : Int) (fun x16 =>
 WfPs Zyj (x16, ()) ->
 K (!x16))))
 (K false))
 (K false)
noncomputable def Zcmh : Tab := ⟨[(Zuu, Zbpl)], []⟩
abbrev Zbsb (x : PkTs Zbam) (K : PkTs Ztk -> Prop) : Prop := Zzj x.1 (fun r0 => K (r0, ()))
theorem Zccy : FnQ Tryz.prog Zve Zbam Ztk Zbsb := (Zq Zbys (tab := Zcmh) ⟨⟨Zced, trivial⟩, trivial⟩ rfl).of_eq (by kernel_rfl)
noncomputable def Zbsw : Ct := ctRd Zbam Ztk Zbsb
theorem Zchp : Zk Tryz.prog Zve Zbsw := Zbw Zccy
def Zbvv : PLoop := ⟨[(3, PK.int .i64), (8, PK.int .i64)], [6, 7], []⟩
def Zcuy : PPlan := ⟨[], [(3, Zbvv)], [], [], [], []⟩
theorem Zcnb : Known Tryz.prog Zyb Tryz.f134 Zcuy.plan (Zg Tryz.f134) := by refine ⟨Tryz.func134, ?_, ?_, ?_, ?_, ?_⟩ <;> kernel_rfl
abbrev Zsx : List Pk := [Pk.lst [Kd.bool, Kd.lst [Kd.int .u32]]]
abbrev Zbbg : List Pk := [Pk.int .i64]
def Zbdh (p0 : List (Bool × List UInt32)) (n3 : Int) (x8 : Int) (next3 : (Int × Int × Unit) -> Prop) (K : Int -> Prop) : Prop :=
 IfB (decide ((x8 : Int) < (p0.length : Int)))
 ((0 : Int) <= x8 ∧ AtN p0 x8.toNat fun x10 =>
 WfT Zdc x10 ->
 next3 ((IntKind.wrap .i64 (n3 + (x10.2.length : Int))), (IntKind.wrap .i64 (x8 + 1)), ()))
 (K n3)
def Zbbv (p0 : List (Bool × List UInt32)) (K : Int -> Prop) : Prop :=
 Zm (Int × Int × Unit) ((0 : Int), (0 : Int), ()) fun y next =>
 WfY Zbvv.kinds y ->
 Zbdh p0 y.1 y.2.1 next K
noncomputable def Zbzy : Tab := ⟨[], []⟩
abbrev Zbux (x : PkTs Zsx) (K : PkTs Zbbg -> Prop) : Prop := Zbbv x.1 (fun r0 => K (r0, ()))
theorem Zcei : FnQ Tryz.prog Zyb Zsx Zbbg Zbux := (Zq Zcnb (tab := Zbzy) ⟨trivial, trivial⟩ rfl).of_eq (by kernel_rfl)
noncomputable def Zbse : Ct := ctRd Zsx Zbbg Zbux
theorem Zcap : Zk Tryz.prog Zyb Zbse := Zbw Zcei
def Zbln : PLoop := ⟨[(7, PK.int .i64)], [0, 5, 6], []⟩
def Zckw : PPlan := ⟨[], [(2, Zbln)], [], [], [], []⟩
theorem Zcmt : Known Tryz.prog Zjf Tryz.f100 Zckw.plan (Zg Tryz.f100) := by refine ⟨Tryz.func100, ?_, ?_, ?_, ?_, ?_⟩ <;> kernel_rfl
abbrev Zmj : List Pk := [Pk.lst [Kd.bool, Kd.lst [Kd.int .u32]]]
abbrev Zli : List Pk := [Pk.int .i64]
def Zbcy (p0 : List (Bool × List UInt32)) (x7 : Int) (next2 : (Int × Unit) -> Prop) (K : Int -> Prop) : Prop :=
 IfB (decide ((x7 : Int) < (p0.length : Int)))
 ((0 : Int) <= x7 ∧ AtN p0 x7.toNat fun x9 =>
 WfT Zdc x9 ->
 (WfPs Zbam (x9, ()) ->
 Zzj x9 (fun x12 =>
 WfPs Ztk (x12, ()) ->
 IfB (!x12)
 (K 2)
 (next2 ((IntKind.wrap .i64 (x7 + 1)), ())))))
 ((WfPs Zsx (p0, ()) ->
 Zbbv p0 (fun x16 =>
 WfPs Zbbg (x16, ()) ->
 IfB (decide ((x16 : Int) > 64))
 (K 2)
 (K 0))))
def Zmb (p0 : List (Bool × List UInt32)) (K : Int -> Prop) : Prop :=
 Zm (Int × Unit) ((0 : Int), ()) fun y next =>
 WfY Zbln.kinds y ->
 Zbcy p0 y.1 next K
noncomputable def Zcaa : Tab := ⟨[(Zve, Zbsw), (Zyb, Zbse)], []⟩
abbrev Zbvs (x : PkTs Zmj) (K : PkTs Zli -> Prop) : Prop := Zmb x.1 (fun r0 => K (r0, ()))
theorem Zbjm : FnQ Tryz.prog Zjf Zmj Zli Zbvs := (Zq Zcmt (tab := Zcaa) ⟨⟨Zchp, Zcap, trivial⟩, trivial⟩ rfl).of_eq (by kernel_rfl)
noncomputable def Zxy : Ct := ctRd Zmj Zli Zbvs
theorem Zbel : Zk Tryz.prog Zjf Zxy := Zbw Zbjm
theorem Zcmd : Known Tryz.prog Zmw Tryz.f105 Zcy.plan (Zg Tryz.f105) := by refine ⟨Tryz.func105, ?_, ?_, ?_, ?_, ?_⟩ <;> kernel_rfl
abbrev Ztu : List Pk := [Pk.int .u32]
abbrev Zsq : List Pk := [Pk.bool]
def Zxb (a0 : Int) (K : Bool -> Prop) : Prop :=
 IfB ((a0 : Int) != 0)
 (K (decide ((a0 : Int) < 3758096384)))
 (K false)
noncomputable def Zckb : Tab := ⟨[], []⟩
abbrev Zblz (x : PkTs Ztu) (K : PkTs Zsq -> Prop) : Prop := Zxb x.1 (fun r0 => K (r0, ()))
theorem Zbrn : FnQ Tryz.prog Zmw Ztu Zsq Zblz := (Zq Zcmd (tab := Zckb) ⟨trivial, trivial⟩ rfl).of_eq (by kernel_rfl)
noncomputable def Zbki : Ct := ctRd Ztu Zsq Zblz
theorem Zcbm : Zk Tryz.prog Zmw Zbki := Zbw Zbrn
theorem Zcnv : Known Tryz.prog Zks Tryz.f94 Zcy.plan (Zg Tryz.f94) := by refine ⟨Tryz.func94, ?_, ?_, ?_, ?_, ?_⟩ <;> kernel_rfl
abbrev Zrm : List Pk := [Pk.int .i64]
abbrev Zqn : List Pk := [Pk.int .u8, Pk.bool]
def Zqb (j0 : Bool) (K : Int -> Bool -> Prop) : Prop :=
 IfB j0
 (K 192 true)
 (K 0 false)
def Zbug (kind0 : Int) (K : Int -> Bool -> Prop) : Prop :=
 IfB ((kind0 : Int) == 4)
 (K 128 true)
 (IfB ((kind0 : Int) == 7)
 (Zqb ((kind0 : Int) == 7) K)
 (IfB ((kind0 : Int) == 8)
 (Zqb ((kind0 : Int) == 8) K)
 (IfB ((kind0 : Int) == 17)
 (Zqb ((kind0 : Int) == 17) K)
 (Zqb ((kind0 : Int) == 18) K))))
def Zmx (kind0 : Int) (j1 : Bool) (K : Int -> Bool -> Prop) : Prop :=
 IfB j1
 (K 64 true)
 (Zbug kind0 K)
def Znv (kind0 : Int) (K : Int -> Bool -> Prop) : Prop :=
 IfB ((kind0 : Int) == 1)
 (Zmx kind0 ((kind0 : Int) == 1) K)
 (IfB ((kind0 : Int) == 2)
 (Zmx kind0 ((kind0 : Int) == 2) K)
 (IfB ((kind0 : Int) == 3)
 (Zmx kind0 ((kind0 : Int) == 3) K)
 (IfB ((kind0 : Int) == 5)
 (Zmx kind0 ((kind0 : Int) == 5) K)
 (Zmx kind0 ((kind0 : Int) == 6) K))))
noncomputable def Zcmi : Tab := ⟨[], []⟩
abbrev Zboj (x : PkTs Zrm) (K : PkTs Zqn -> Prop) : Prop := Znv x.1 (fun r0 r1 => K (r0, r1, ()))
theorem Zbvg : FnQ Tryz.prog Zks Zrm Zqn Zboj := (Zq Zcnv (tab := Zcmi) ⟨trivial, trivial⟩ rfl).of_eq (by kernel_rfl)
noncomputable def Zbew : Ct := ctRd Zrm Zqn Zboj
theorem Zbuy : Zk Tryz.prog Zks Zbew := Zbw Zbvg
def Zbwb : PLoop := ⟨[(3, PK.int .i64), (10, PK.int .i64)], [0, 8, 9], []⟩
def Zcbc : PPlan := ⟨[], [(3, Zbwb)], [], [], [], []⟩
theorem Zbzq : Known Tryz.prog Zsk Tryz.f106 Zcbc.plan (Zg Tryz.f106) := by refine ⟨Tryz.func106, ?_, ?_, ?_, ?_, ?_⟩ <;> kernel_rfl
abbrev Zvu : List Pk := [Pk.lst [Kd.int .i64, Kd.lst [Kd.int .u8]]]
abbrev Zbay : List Pk := [Pk.bool]
def Zpq (l0 : List (Int × List UInt8)) (x12 : Int × List UInt8) (x10 : Int) (next3 : (Int × Int × Unit) -> Prop) (j6 : Bool) (K : Bool -> Prop) : Prop :=
 IfB j6
 (K false)
 (next3 (x12.1, (IntKind.wrap .i64 (x10 + 1)), ()))
def Zbcl (l0 : List (Int × List UInt8)) (last3 : Int) (x10 : Int) (next3 : (Int × Int × Unit) -> Prop) (K : Bool -> Prop) : Prop :=
 IfB (decide ((x10 : Int) < (l0.length : Int)))
 ((0 : Int) <= x10 ∧ AtN l0 x10.toNat fun x12 =>
 WfT Zir x12 ->
 (WfPs Zrm (x12.1, ()) ->
 Znv x12.1 (fun x17r0 x17r1 =>
 WfPs Zqn (x17r0, x17r1, ()) ->
 IfB x17r1
 (Zpq l0 x12 x10 next3 true K)
 (IfB (decide ((x12.1 : Int) <= last3))
 (Zpq l0 x12 x10 next3 true K)
 (IfB (decide ((x12.1 : Int) > 255))
 (Zpq l0 x12 x10 next3 true K)
 (Zpq l0 x12 x10 next3 (decide (((x12.2.length : Int) : Int) > 255)) K))))))
 (K (decide (((l0.length : Int) : Int) <= 8)))
def Zbbr (l0 : List (Int × List UInt8)) (K : Bool -> Prop) : Prop :=
 Zm (Int × Int × Unit) (((-1) : Int), (0 : Int), ()) fun y next =>
 WfY Zbwb.kinds y ->
 Zbcl l0 y.1 y.2.1 next K
noncomputable def Zcnr : Tab := ⟨[(Zks, Zbew)], []⟩
abbrev Zbmr (x : PkTs Zvu) (K : PkTs Zbay -> Prop) : Prop := Zbbr x.1 (fun r0 => K (r0, ()))
theorem Zcoi : FnQ Tryz.prog Zsk Zvu Zbay Zbmr := (Zq Zbzq (tab := Zcnr) ⟨⟨Zbuy, trivial⟩, trivial⟩ rfl).of_eq (by kernel_rfl)
noncomputable def Zbku : Ct := ctRd Zvu Zbay Zbmr
theorem Zcpm : Zk Tryz.prog Zsk Zbku := Zbw Zcoi
theorem Zcnu : Known Tryz.prog Zwd Tryz.f73 Zcy.plan (Zg Tryz.f73) := by refine ⟨Tryz.func73, ?_, ?_, ?_, ?_, ?_⟩ <;> kernel_rfl
abbrev Zbbe : List Pk := [Pk.agg [Kd.int .i64, Kd.lst [Kd.bool, Kd.lst [Kd.int .u32]], Kd.int .u32, Kd.bool, Kd.int .u32, Kd.bool, Kd.int .u32, Kd.bool, Kd.bool, Kd.int .u32, Kd.int .u32, Kd.lst [Kd.int .u32], Kd.lst [Kd.int .i64, Kd.lst [Kd.int .u8]]]]
abbrev Zbaq : List Pk := [Pk.int .i64]
def Zbhc (j0 : Bool) (K : Int -> Prop) : Prop :=
 IfB j0
 (K 2)
 (K 0)
def Zme (a0 : Ty1) (j13_1 : Bool) (K : Int -> Prop) : Prop :=
 IfB j13_1
 (K 2)
 (IfB (decide (((a0.2.2.2.2.2.2.2.2.2.2.2.1.length : Int) : Int) > 32))
 (Zbhc true K)
 ((WfPs Zvu (a0.2.2.2.2.2.2.2.2.2.2.2.2, ()) ->
 Zbbr a0.2.2.2.2.2.2.2.2.2.2.2.2 (fun x40 =>
 WfPs Zbay (x40, ()) ->
 Zbhc (!x40) K))))
def Zbbi (a0 : Ty1) (j13 : Bool) (K : Int -> Prop) : Prop :=
 IfB j13
 (K 2)
 ((WfPs Ztu ((a0.2.2.1.toNat : Int), ()) ->
 Zxb (a0.2.2.1.toNat : Int) (fun x21 =>
 WfPs Zsq (x21, ()) ->
 IfB (!x21)
 (Zme a0 true K)
 (IfB a0.2.2.2.2.2.2.2.2.1
 (Zme a0 (((a0.2.2.2.2.2.2.2.2.2.1.toNat : Int) : Int) == 0) K)
 (Zme a0 false K)))))
def Zwb (a0 : Ty1) (K : Int -> Prop) : Prop :=
 IfB (decide ((a0.1 : Int) < 0))
 (Zbbi a0 true K)
 (IfB (decide ((a0.1 : Int) > 2))
 (Zbbi a0 true K)
 ((WfPs Zmj (a0.2.1, ()) ->
 Zmb a0.2.1 (fun x15 =>
 WfPs Zli (x15, ()) ->
 Zbbi a0 ((x15 : Int) != 0) K))))
noncomputable def Zcon : Tab := ⟨[(Zjf, Zxy), (Zmw, Zbki), (Zsk, Zbku)], []⟩
abbrev Zbsc (x : PkTs Zbbe) (K : PkTs Zbaq -> Prop) : Prop := Zwb x.1 (fun r0 => K (r0, ()))
theorem Zcrt : FnQ Tryz.prog Zwd Zbbe Zbaq Zbsc := (Zq Zcnu (tab := Zcon) ⟨⟨Zbel, Zcbm, Zcpm, trivial⟩, trivial⟩ rfl).of_eq (by kernel_rfl)
noncomputable def Zbpj : Ct := ctRd Zbbe Zbaq Zbsc
theorem Zcff : Zk Tryz.prog Zwd Zbpj := Zbw Zcrt
theorem Zcpp : Known Tryz.prog Ztb Tryz.f107 Zcy.plan (Zg Tryz.f107) := by refine ⟨Tryz.func107, ?_, ?_, ?_, ?_, ?_⟩ <;> kernel_rfl
abbrev Zuv : List Pk := [Pk.agg [Kd.bool, Kd.lst [Kd.int .u32]]]
abbrev Zyz : List Pk := [Pk.int .u8]
def Zyq (s0 : Bool × List UInt32) (K : Int -> Prop) : Prop :=
 IfB s0.1
 (K 1)
 (K 2)
noncomputable def Zclw : Tab := ⟨[], []⟩
abbrev Zboi (x : PkTs Zuv) (K : PkTs Zyz -> Prop) : Prop := Zyq x.1 (fun r0 => K (r0, ()))
theorem Zcsh : FnQ Tryz.prog Ztb Zuv Zyz Zboi := (Zq Zcpp (tab := Zclw) ⟨trivial, trivial⟩ rfl).of_eq (by kernel_rfl)
noncomputable def Zbmq : Ct := ctRd Zuv Zyz Zboi
theorem Zcgj : Zk Tryz.prog Ztb Zbmq := Zbw Zcsh
def Zbpr : PLoop := ⟨[(7, PK.row Zee [Kd.int .u8]), (19, PK.int .i64)], [1, 17, 18], []⟩
def Zbmh : PLoop := ⟨[(7, PK.row Zee [Kd.int .u8]), (35, PK.int .i64)], [1, 17, 18, 19, 33, 34], []⟩
def Zcka : PPlan := ⟨[(8, [0, 1, 3, 4, 5, 6, 2, 7, 8, 9], [27])], [(6, Zbpr), (10, Zbmh)], [], [], [], []⟩
theorem Zcll : Known Tryz.prog Zzl Tryz.f74 Zcka.plan (Zg Tryz.f74) := by refine ⟨Tryz.func74, ?_, ?_, ?_, ?_, ?_⟩ <;> kernel_rfl
abbrev Zrh : List Pk := [Pk.lst [Kd.bool, Kd.lst [Kd.int .u32]], Pk.bool]
abbrev Znr : List Pk := [Pk.own Zee [Kd.int .u8], Pk.int .i64]
def Zyl (four1 : Bool) (j1 : List UInt8) (j2 : Int) (p0 : List (Bool × List UInt32)) (x19 : Int) (x21 : Bool × List UInt32) (x35 : Int) (next6 : (List UInt8 × Int × Unit) -> Prop) (next10 : (List UInt8 × Int × Unit) -> Prop) (K : List UInt8 -> Int -> Prop) : Prop :=
 next10 ((j1 ++ ([(ofI .u8 (IntKind.wrap .u8 (Int.fdiv j2 256))), (ofI .u8 (IntKind.wrap .u8 j2))] : List UInt8)), (IntKind.wrap .i64 (x35 + 1)), ())
def Zbio (four1 : Bool) (p0 : List (Bool × List UInt32)) (x19 : Int) (x21 : Bool × List UInt32) (x35 : Int) (next6 : (List UInt8 × Int × Unit) -> Prop) (next10 : (List UInt8 × Int × Unit) -> Prop) (j1 : List UInt8) (j2 : Int) (K : List UInt8 -> Int -> Prop) : Prop :=
 (0 : Int) <= 8 ∧
 j1.length + ([(ofI .u8 (IntKind.wrap .u8 (Int.fdiv j2 256))), (ofI .u8 (IntKind.wrap .u8 j2))] : List UInt8).length <= 140737488355232 ∧
 Zyl four1 j1 j2 p0 x19 x21 x35 next6 next10 K
def Zbdm (four1 : Bool) (p0 : List (Bool × List UInt32)) (x19 : Int) (x21 : Bool × List UInt32) (next6 : (List UInt8 × Int × Unit) -> Prop) (b7_1 : List UInt8) (x35 : Int) (next10 : (List UInt8 × Int × Unit) -> Prop) (K : List UInt8 -> Int -> Prop) : Prop :=
 IfB (decide ((x35 : Int) < (x21.2.length : Int)))
 ((0 : Int) <= x35 ∧ AtN x21.2 x35.toNat fun x37 =>
 WfT Zjt x37 ->
 IfB four1
 ((0 : Int) <= 24 ∧
 (0 : Int) <= 16 ∧
 b7_1.length + ([(ofI .u8 (IntKind.wrap .u8 (Int.fdiv (x37.toNat : Int) 16777216))), (ofI .u8 (IntKind.wrap .u8 (Int.fdiv (x37.toNat : Int) 65536)))] : List UInt8).length <= 140737488355232 ∧
 Zbio four1 p0 x19 x21 x35 next6 next10 (b7_1 ++ ([(ofI .u8 (IntKind.wrap .u8 (Int.fdiv (x37.toNat : Int) 16777216))), (ofI .u8 (IntKind.wrap .u8 (Int.fdiv (x37.toNat : Int) 65536)))] : List UInt8)) (x37.toNat : Int) K)
 (IfB (decide (((x37.toNat : Int) : Int) > 65535))
 (Zbio four1 p0 x19 x21 x35 next6 next10 b7_1 23456 K)
 (Zbio four1 p0 x19 x21 x35 next6 next10 b7_1 (x37.toNat : Int) K)))
 (next6 (b7_1, (IntKind.wrap .i64 (x19 + 1)), ()))
def Zbfk (four1 : Bool) (p0 : List (Bool × List UInt32)) (b7 : List UInt8) (x19 : Int) (next6 : (List UInt8 × Int × Unit) -> Prop) (K : List UInt8 -> Int -> Prop) : Prop :=
 IfB (decide ((x19 : Int) < (p0.length : Int)))
 ((0 : Int) <= x19 ∧ AtN p0 x19.toNat fun x21 =>
 WfT Zdc x21 ->
 (WfPs Zuv (x21, ()) ->
 Zyq x21 (fun x25 =>
 WfPs Zyz (x25, ()) ->
 b7.length + ([(ofI .u8 x25), (ofI .u8 (IntKind.wrap .u8 (x21.2.length : Int)))] : List UInt8).length <= 140737488355232 ∧
 Zm (List UInt8 × Int × Unit) ((b7 ++ ([(ofI .u8 x25), (ofI .u8 (IntKind.wrap .u8 (x21.2.length : Int)))] : List UInt8)), (0 : Int), ()) fun y next =>
 WfY Zbmh.kinds y ->
 Zbdm four1 p0 x19 x21 next6 y.1 y.2.1 next K)))
 (K b7 0)
def Zqq (p0 : List (Bool × List UInt32)) (four1 : Bool) (K : List UInt8 -> Int -> Prop) : Prop :=
 (WfPs Zmj (p0, ()) ->
 Zmb p0 (fun x13 =>
 WfPs Zli (x13, ()) ->
 IfB ((x13 : Int) != 0)
 (K ([] : List UInt8) x13)
 (Zm (List UInt8 × Int × Unit) (([] : List UInt8), (0 : Int), ()) fun y next =>
 WfY Zbpr.kinds y ->
 Zbfk four1 p0 y.1 y.2.1 next K)))
noncomputable def Zclg : Tab := ⟨[(Zjf, Zxy), (Ztb, Zbmq)], []⟩
abbrev Zbpu (x : PkTs Zrh) (K : PkTs Znr -> Prop) : Prop := Zqq x.1 x.2.1 (fun r0 r1 => K (r0, r1, ()))
theorem Zcrd : FnQ Tryz.prog Zzl Zrh Znr Zbpu := (Zq Zcll (tab := Zclg) ⟨⟨Zbel, Zcgj, trivial⟩, trivial⟩ rfl).of_eq (by kernel_rfl)
noncomputable def Zbkr : Ct := Zcq Zrh Znr Zbpu
theorem Zcnc : Zk Tryz.prog Zzl Zbkr := Zcx Zcrd
def Zcfs : PPlan := ⟨[], [], [25], [], [], []⟩
theorem Zcqa : Known Tryz.prog Ztz Tryz.f80 Zcfs.plan (Zg Tryz.f80) := by refine ⟨Tryz.func80, ?_, ?_, ?_, ?_, ?_⟩ <;> kernel_rfl
abbrev Zxo : List Pk := [Pk.nil, Pk.int .i64]
abbrev Zbak : List Pk := [Pk.own Zee [Kd.int .u8]]
def Zzo (n1 : Int) (K : List UInt8 -> Prop) : Prop :=
 IfB (decide ((n1 : Int) < 0))
 (False)
 (IfB (decide (((IntKind.wrap .i64 (n1 - (IntKind.wrap .i64 (0 - 0)))) : Int) > 0))
 ((0 : Int) <= 0 ∧ 0 <= (0 : Int) ∧
 (0 : Int) < (IntKind.wrap .i64 (n1 - (IntKind.wrap .i64 (0 - 0)))) ∧ (IntKind.wrap .i64 (n1 - (IntKind.wrap .i64 (0 - 0)))) <= 1000000000 ∧
 (0 : Int) <= 0 ∧ 0 <= ((List.replicate (IntKind.wrap .i64 (n1 - (IntKind.wrap .i64 (0 - 0)))).toNat ((ofI .u8 0) : UInt8)).length : Int) ∧
 K ((List.replicate (IntKind.wrap .i64 (n1 - (IntKind.wrap .i64 (0 - 0)))).toNat ((ofI .u8 0) : UInt8)).take 0))
 (K ([] : List UInt8)))
noncomputable def Zcml : Tab := ⟨[], []⟩
abbrev Zbix (x : PkTs Zxo) (K : PkTs Zbak -> Prop) : Prop := Zzo x.2.1 (fun r0 => K (r0, ()))
theorem Zclz : FnQ Tryz.prog Ztz Zxo Zbak Zbix := (Zq Zcqa (tab := Zcml) ⟨trivial, trivial⟩ rfl).of_eq (by kernel_rfl)
noncomputable def Zbvn : Ct := Zcq Zxo Zbak Zbix
theorem Zceq : Zk Tryz.prog Ztz Zbvn := Zcx Zclz
def Zblr : PLoop := ⟨[(3, PK.int .i64), (11, PK.int .i64)], [0, 9, 10], []⟩
def Zbmo : PLoop := ⟨[(6, PK.row Zee [Kd.int .u8]), (27, PK.int .i64)], [25, 26], []⟩
def Zbyt : PPlan := ⟨[], [(3, Zblr), (11, Zbmo)], [], [], [], []⟩
theorem Zcgl : Known Tryz.prog Zmv Tryz.f39 Zbyt.plan (Zg Tryz.f39) := by refine ⟨Tryz.func39, ?_, ?_, ?_, ?_, ?_⟩ <;> kernel_rfl
abbrev Znc : List Pk := [Pk.lst [Kd.lst [Kd.int .u8]]]
abbrev Zms : List Pk := [Pk.own Zee [Kd.int .u8]]
def Zbgi (slices0 : List (List UInt8)) (newslice6 : List UInt8) (x27 : Int) (next11 : (List UInt8 × Int × Unit) -> Prop) (K : List UInt8 -> Prop) : Prop :=
 IfB (decide ((x27 : Int) < (slices0.length : Int)))
 ((0 : Int) <= x27 ∧ AtN slices0 x27.toNat fun x29 =>
 WfT Zbkb x29 ->
 newslice6.length + x29.length <= 140737488355232 ∧
 next11 ((newslice6 ++ x29), (IntKind.wrap .i64 (x27 + 1)), ()))
 (K newslice6)
def Zbhh (slices0 : List (List UInt8)) (size3 : Int) (x11 : Int) (next3 : (Int × Int × Unit) -> Prop) (K : List UInt8 -> Prop) : Prop :=
 IfB (decide ((x11 : Int) < (slices0.length : Int)))
 ((0 : Int) <= x11 ∧ AtN slices0 x11.toNat fun x13 =>
 WfT Zbkb x13 ->
 IfB (decide (((IntKind.wrap .i64 (size3 + (x13.length : Int))) : Int) < 0))
 (False)
 (next3 ((IntKind.wrap .i64 (size3 + (x13.length : Int))), (IntKind.wrap .i64 (x11 + 1)), ())))
 ((WfPs Zxo ((), size3, ()) ->
 Zzo size3 (fun x24 =>
 WfPs Zbak (x24, ()) ->
 Zm (List UInt8 × Int × Unit) (x24, (0 : Int), ()) fun y next =>
 WfY Zbmo.kinds y ->
 Zbgi slices0 y.1 y.2.1 next K)))
def Zmq (slices0 : List (List UInt8)) (K : List UInt8 -> Prop) : Prop :=
 Zm (Int × Int × Unit) ((0 : Int), (0 : Int), ()) fun y next =>
 WfY Zblr.kinds y ->
 Zbhh slices0 y.1 y.2.1 next K
noncomputable def Zcjv : Tab := ⟨[(Ztz, Zbvn)], []⟩
abbrev Zbje (x : PkTs Znc) (K : PkTs Zms -> Prop) : Prop := Zmq x.1 (fun r0 => K (r0, ()))
theorem Zctb : FnQ Tryz.prog Zmv Znc Zms Zbje := (Zq Zcgl (tab := Zcjv) ⟨⟨Zceq, trivial⟩, trivial⟩ rfl).of_eq (by kernel_rfl)
noncomputable def Zbag : Ct := Zcq Znc Zms Zbje
theorem Zben : Zk Tryz.prog Zmv Zbag := Zcx Zctb
theorem Zchg : Known Tryz.prog Zrp Tryz.f79 Zcy.plan (Zg Tryz.f79) := by refine ⟨Tryz.func79, ?_, ?_, ?_, ?_, ?_⟩ <;> kernel_rfl
abbrev Zbab : List Pk := [Pk.int .u8, Pk.int .i64, Pk.lst [Kd.lst [Kd.int .u8]]]
abbrev Zty : List Pk := []
abbrev Zlb : List PK := [PK.row Zee [Kd.int .u8]]
def Zblh (x11 : List UInt8) (j0 : List UInt8) (K : List UInt8 -> Prop) : Prop :=
 j0.length + x11.length <= 140737488355232 ∧
 K (j0 ++ x11)
def Zld (c0 : List UInt8) (flags1 : Int) (kind2 : Int) (parts3 : List (List UInt8)) (K : List UInt8 -> Prop) : Prop :=
 (WfPs Znc (parts3, ()) ->
 Zmq parts3 (fun x11 =>
 WfPs Zms (x11, ()) ->
 IfB (decide (((x11.length : Int) : Int) > 255))
 ((0 : Int) <= 8 ∧
 c0.length + ([(ofI .u8 (Zeo .u8 flags1 16)), (ofI .u8 (IntKind.wrap .u8 kind2)), (ofI .u8 (IntKind.wrap .u8 (Int.fdiv (x11.length : Int) 256))), (ofI .u8 (IntKind.wrap .u8 (x11.length : Int)))] : List UInt8).length <= 140737488355232 ∧
 Zblh x11 (c0 ++ ([(ofI .u8 (Zeo .u8 flags1 16)), (ofI .u8 (IntKind.wrap .u8 kind2)), (ofI .u8 (IntKind.wrap .u8 (Int.fdiv (x11.length : Int) 256))), (ofI .u8 (IntKind.wrap .u8 (x11.length : Int)))] : List UInt8)) K)
 (c0.length + ([(ofI .u8 flags1), (ofI .u8 (IntKind.wrap .u8 kind2)), (ofI .u8 (IntKind.wrap .u8 (x11.length : Int)))] : List UInt8).length <= 140737488355232 ∧
 Zblh x11 (c0 ++ ([(ofI .u8 flags1), (ofI .u8 (IntKind.wrap .u8 kind2)), (ofI .u8 (IntKind.wrap .u8 (x11.length : Int)))] : List UInt8)) K)))
noncomputable def Zcly : Tab := ⟨[(Zmv, Zbag)], []⟩
theorem Zcrm : FnO Tryz.prog Zrp Zmm Zlb Zbab Zty (fun o x K => Zld o.1 x.1 x.2.1 x.2.2.1 (fun o0 => K (o0, ()) (()))) := (Zbeo Zchg (tab := Zcly) ⟨⟨Zben, trivial⟩, trivial⟩ rfl).of_eq (by kernel_rfl)
noncomputable def Zbhu : Ct := Zqu Zmm Zlb Zbab Zty (fun o x K => Zld o.1 x.1 x.2.1 x.2.2.1 (fun o0 => K (o0, ()) (())))
theorem Zbwt : Zk Tryz.prog Zrp Zbhu := Zbdo Zcrm
theorem Zcar : Known Tryz.prog Znq Tryz.f75 Zcy.plan (Zg Tryz.f75) := by refine ⟨Tryz.func75, ?_, ?_, ?_, ?_, ?_⟩ <;> kernel_rfl
abbrev Zha : List Pk := [Pk.int .i64, Pk.lst [Kd.lst [Kd.int .u8]]]
abbrev Zgh : List Pk := []
abbrev Zdf : List PK := [PK.row Zee [Kd.int .u8]]
def Zfi (c0 : List UInt8) (kind1 : Int) (parts2 : List (List UInt8)) (K : List UInt8 -> Prop) : Prop :=
 (WfPs Zrm (kind1, ()) ->
 Znv kind1 (fun x10r0 x10r1 =>
 WfPs Zqn (x10r0, x10r1, ()) ->
 (WfY Zlb (c0, ()) ->
 WfPs Zbab (x10r0, kind1, parts2, ()) ->
 Zld c0 x10r0 kind1 parts2 (fun ox170 =>
 WfY Zlb (ox170, ()) ->
 WfPs Zty () ->
 K ox170))))
noncomputable def Zcmf : Tab := ⟨[(Zrp, Zbhu), (Zks, Zbew)], []⟩
theorem Zbzs : FnO Tryz.prog Znq Zmm Zdf Zha Zgh (fun o x K => Zfi o.1 x.1 x.2.1 (fun o0 => K (o0, ()) (()))) := (Zbeo Zcar (tab := Zcmf) ⟨⟨Zbwt, Zbuy, trivial⟩, trivial⟩ rfl).of_eq (by kernel_rfl)
noncomputable def Zbdb : Ct := Zqu Zmm Zdf Zha Zgh (fun o x K => Zfi o.1 x.1 x.2.1 (fun o0 => K (o0, ()) (())))
theorem Zbsj : Zk Tryz.prog Znq Zbdb := Zbdo Zbzs
theorem Zbze : Known Tryz.prog Zly Tryz.f76 Zcy.plan (Zg Tryz.f76) := by refine ⟨Tryz.func76, ?_, ?_, ?_, ?_, ?_⟩ <;> kernel_rfl
abbrev Zgs : List Pk := [Pk.int .u32]
abbrev Zgk : List Pk := [Pk.own Zee [Kd.int .u8]]
def Zgj (n0 : Int) (K : List UInt8 -> Prop) : Prop :=
 (0 : Int) <= 24 ∧
 (0 : Int) <= 16 ∧
 (0 : Int) <= 8 ∧
 K ([(ofI .u8 (IntKind.wrap .u8 (Int.fdiv n0 16777216))), (ofI .u8 (IntKind.wrap .u8 (Int.fdiv n0 65536))), (ofI .u8 (IntKind.wrap .u8 (Int.fdiv n0 256))), (ofI .u8 (IntKind.wrap .u8 n0))] : List UInt8)
noncomputable def Zckc : Tab := ⟨[], []⟩
abbrev Zbrj (x : PkTs Zgs) (K : PkTs Zgk -> Prop) : Prop := Zgj x.1 (fun r0 => K (r0, ()))
theorem Zcpf : FnQ Tryz.prog Zly Zgs Zgk Zbrj := (Zq Zbze (tab := Zckc) ⟨trivial, trivial⟩ rfl).of_eq (by kernel_rfl)
noncomputable def Zug : Ct := Zcq Zgs Zgk Zbrj
theorem Zbfh : Zk Tryz.prog Zly Zug := Zcx Zcpf
theorem Zclf : Known Tryz.prog Zzm Tryz.f108 Zcy.plan (Zg Tryz.f108) := by refine ⟨Tryz.func108, ?_, ?_, ?_, ?_, ?_⟩ <;> kernel_rfl
abbrev Zbbt : List Pk := [Pk.int .u32, Pk.bool]
abbrev Zwa : List Pk := [Pk.lst [Kd.int .u8]]
def Zta (j0 : Int) (K : List UInt8 -> Prop) : Prop :=
 (WfPs Zgs (j0, ()) ->
 Zgj j0 (fun x13 =>
 WfPs Zgk (x13, ()) ->
 (0 : Int) <= 2 ∧ 2 <= (x13.length : Int) ∧
 K (x13.drop 2)))
def Zto (as0 : Int) (four1 : Bool) (K : List UInt8 -> Prop) : Prop :=
 IfB four1
 ((WfPs Zgs (as0, ()) ->
 Zgj as0 (fun x8 =>
 WfPs Zgk (x8, ()) ->
 K x8)))
 (IfB (decide ((as0 : Int) > 65535))
 (Zta 23456 K)
 (Zta as0 K))
noncomputable def Zbzl : Tab := ⟨[(Zly, Zug)], []⟩
abbrev Zbmw (x : PkTs Zbbt) (K : PkTs Zwa -> Prop) : Prop := Zto x.1 x.2.1 (fun r0 => K (r0, ()))
theorem Zcen : FnQ Tryz.prog Zzm Zbbt Zwa Zbmw := (Zq Zclf (tab := Zbzl) ⟨⟨Zbfh, trivial⟩, trivial⟩ rfl).of_eq (by kernel_rfl)
noncomputable def Zbjn : Ct := Zcq Zbbt Zwa Zbmw
theorem Zchm : Zk Tryz.prog Zzm Zbjn := Zcx Zcen
def Zbpi : PLoop := ⟨[(6, PK.row Zbfr [Kd.lst [Kd.int .u8]]), (40, PK.int .i64)], [0, 38, 39], []⟩
def Zcaz : PPlan := ⟨[(6, [0, 1, 2, 3, 5, 6, 4, 7, 8, 9], [29])], [(10, Zbpi)], [], [], [], []⟩
theorem Zcce : Known Tryz.prog Zsy Tryz.f77 Zcaz.plan (Zg Tryz.f77) := by refine ⟨Tryz.func77, ?_, ?_, ?_, ?_, ?_⟩ <;> kernel_rfl
abbrev Zbgg : List Pk := [Pk.agg [Kd.int .i64, Kd.lst [Kd.bool, Kd.lst [Kd.int .u32]], Kd.int .u32, Kd.bool, Kd.int .u32, Kd.bool, Kd.int .u32, Kd.bool, Kd.bool, Kd.int .u32, Kd.int .u32, Kd.lst [Kd.int .u32], Kd.lst [Kd.int .i64, Kd.lst [Kd.int .u8]]], Pk.bool]
abbrev Zbfi : List Pk := []
abbrev Zsc : List PK := [PK.row Zee [Kd.int .u8]]
def Zbgf (j0_2 : List UInt8) (a1 : Ty1) (l6 : List (List UInt8)) (x40 : Int) (next10 : (List (List UInt8) × Int × Unit) -> Prop) (K : List UInt8 -> Prop) : Prop :=
 IfB (decide ((x40 : Int) < (a1.2.2.2.2.2.2.2.2.2.2.2.1.length : Int)))
 ((0 : Int) <= x40 ∧ AtN a1.2.2.2.2.2.2.2.2.2.2.2.1 x40.toNat fun x42 =>
 WfT Zjt x42 ->
 (WfPs Zgs ((x42.toNat : Int), ()) ->
 Zgj (x42.toNat : Int) (fun x46 =>
 WfPs Zgk (x46, ()) ->
 l6.length + ([x46] : List (List UInt8)).length <= 5864062014709 ∧
 next10 ((l6 ++ ([x46] : List (List UInt8))), (IntKind.wrap .i64 (x40 + 1)), ()))))
 ((WfY Zdf (j0_2, ()) ->
 WfPs Zha ((8 : Int), l6, ()) ->
 Zfi j0_2 (8 : Int) l6 (fun ox520 =>
 WfY Zdf (ox520, ()) ->
 WfPs Zgh () ->
 K ox520)))
def Zwj (a1 : Ty1) (j0_2 : List UInt8) (K : List UInt8 -> Prop) : Prop :=
 IfB (decide (((a1.2.2.2.2.2.2.2.2.2.2.2.1.length : Int) : Int) > 0))
 (Zm (List (List UInt8) × Int × Unit) (([] : List (List UInt8)), (0 : Int), ()) fun y next =>
 WfY Zbpi.kinds y ->
 Zbgf j0_2 a1 y.1 y.2.1 next K)
 (K j0_2)
def Zwl (four2 : Bool) (a1 : Ty1) (j0_1 : List UInt8) (K : List UInt8 -> Prop) : Prop :=
 IfB a1.2.2.2.2.2.2.2.2.1
 ((WfPs Zbbt ((a1.2.2.2.2.2.2.2.2.2.1.toNat : Int), four2, ()) ->
 Zto (a1.2.2.2.2.2.2.2.2.2.1.toNat : Int) four2 (fun x27 =>
 WfPs Zwa (x27, ()) ->
 (WfPs Zgs ((a1.2.2.2.2.2.2.2.2.2.2.1.toNat : Int), ()) ->
 Zgj (a1.2.2.2.2.2.2.2.2.2.2.1.toNat : Int) (fun x30 =>
 WfPs Zgk (x30, ()) ->
 (WfY Zdf (j0_1, ()) ->
 WfPs Zha ((7 : Int), ([x27, x30] : List (List UInt8)), ()) ->
 Zfi j0_1 (7 : Int) ([x27, x30] : List (List UInt8)) (fun ox320 =>
 WfY Zdf (ox320, ()) ->
 WfPs Zgh () ->
 Zwj a1 ox320 K)))))))
 (Zwj a1 j0_1 K)
def Zum (four2 : Bool) (a1 : Ty1) (j0 : List UInt8) (K : List UInt8 -> Prop) : Prop :=
 IfB a1.2.2.2.2.2.2.2.1
 ((WfY Zdf (j0, ()) ->
 WfPs Zha ((6 : Int), ([] : List (List UInt8)), ()) ->
 Zfi j0 (6 : Int) ([] : List (List UInt8)) (fun ox200 =>
 WfY Zdf (ox200, ()) ->
 WfPs Zgh () ->
 Zwl four2 a1 ox200 K)))
 (Zwl four2 a1 j0 K)
def Zpf (c0 : List UInt8) (a1 : Ty1) (four2 : Bool) (K : List UInt8 -> Prop) : Prop :=
 IfB a1.2.2.2.1
 ((WfPs Zgs ((a1.2.2.2.2.1.toNat : Int), ()) ->
 Zgj (a1.2.2.2.2.1.toNat : Int) (fun x14 =>
 WfPs Zgk (x14, ()) ->
 (WfY Zdf (c0, ()) ->
 WfPs Zha ((4 : Int), ([x14] : List (List UInt8)), ()) ->
 Zfi c0 (4 : Int) ([x14] : List (List UInt8)) (fun ox160 =>
 WfY Zdf (ox160, ()) ->
 WfPs Zgh () ->
 Zum four2 a1 ox160 K)))))
 (Zum four2 a1 c0 K)
noncomputable def Zcsg : Tab := ⟨[(Znq, Zbdb), (Zly, Zug), (Zzm, Zbjn)], []⟩
theorem Zcho : FnO Tryz.prog Zsy Zmm Zsc Zbgg Zbfi (fun o x K => Zpf o.1 x.1 x.2.1 (fun o0 => K (o0, ()) (()))) := (Zbeo Zcce (tab := Zcsg) ⟨⟨Zbsj, Zbfh, Zchm, trivial⟩, trivial⟩ rfl).of_eq (by kernel_rfl)
noncomputable def Zbuh : Ct := Zqu Zmm Zsc Zbgg Zbfi (fun o x K => Zpf o.1 x.1 x.2.1 (fun o0 => K (o0, ()) (())))
theorem Zclj : Zk Tryz.prog Zsy Zbuh := Zbdo Zcho
theorem Zclh : Known Tryz.prog Zlp Tryz.f112 Zcy.plan (Zg Tryz.f112) := by refine ⟨Tryz.func112, ?_, ?_, ?_, ?_, ?_⟩ <;> kernel_rfl
abbrev Zbbf : List Pk := [Pk.int .u32]
abbrev Zvi : List Pk := [Pk.bool]
def Zbgs (as0 : Int) (K : Bool -> Prop) : Prop :=
 K (decide ((as0 : Int) > 65535))
noncomputable def Zcki : Tab := ⟨[], []⟩
abbrev Zbkv (x : PkTs Zbbf) (K : PkTs Zvi -> Prop) : Prop := Zbgs x.1 (fun r0 => K (r0, ()))
theorem Zbyl : FnQ Tryz.prog Zlp Zbbf Zvi Zbkv := (Zq Zclh (tab := Zcki) ⟨trivial, trivial⟩ rfl).of_eq (by kernel_rfl)
noncomputable def Zbxe : Ct := ctRd Zbbf Zvi Zbkv
theorem Zcfp : Zk Tryz.prog Zlp Zbxe := Zbw Zbyl
def Zbkt : PLoop := ⟨[(8, PK.int .i64)], [0, 1, 7], []⟩
def Zcpb : PPlan := ⟨[], [(2, Zbkt)], [], [], [], []⟩
theorem Zcem : Known Tryz.prog Zun Tryz.f136 Zcpb.plan (Zg Tryz.f136) := by refine ⟨Tryz.func136, ?_, ?_, ?_, ?_, ?_⟩ <;> kernel_rfl
abbrev Zbbj : List Pk := [Pk.lst [Kd.int .u32], Pk.fn 112]
abbrev Zvm : List Pk := [Pk.int .i64]
def Zbhq (s0 : List UInt32) (x8 : Int) (next2 : (Int × Unit) -> Prop) (K : Int -> Prop) : Prop :=
 IfB (decide ((x8 : Int) < (s0.length : Int)))
 ((0 : Int) <= x8 ∧ AtN s0 x8.toNat fun x14 =>
 WfT Zjt x14 ->
 (WfPs Zbbf ((x14.toNat : Int), ()) ->
 Zbgs (x14.toNat : Int) (fun x16 =>
 WfPs Zvi (x16, ()) ->
 IfB x16
 (K x8)
 (next2 ((IntKind.wrap .i64 (x8 + 1)), ())))))
 (K (-1))
def Ztc (s0 : List UInt32) (K : Int -> Prop) : Prop :=
 Zm (Int × Unit) ((0 : Int), ()) fun y next =>
 WfY Zbkt.kinds y ->
 Zbhq s0 y.1 next K
noncomputable def Zccv : Tab := ⟨[(Zlp, Zbxe)], []⟩
abbrev Zbjh (x : PkTs Zbbj) (K : PkTs Zvm -> Prop) : Prop := Ztc x.1 (fun r0 => K (r0, ()))
theorem Zcth : FnQ Tryz.prog Zun Zbbj Zvm Zbjh := (Zq Zcem (tab := Zccv) ⟨⟨Zcfp, trivial⟩, trivial⟩ rfl).of_eq (by kernel_rfl)
noncomputable def Zbws : Ct := ctRd Zbbj Zvm Zbjh
theorem Zcrn : Zk Tryz.prog Zun Zbws := Zbw Zcth
theorem Zctt : Known Tryz.prog Zuk Tryz.f111 Zcy.plan (Zg Tryz.f111) := by refine ⟨Tryz.func111, ?_, ?_, ?_, ?_, ?_⟩ <;> kernel_rfl
abbrev Zxq : List Pk := [Pk.lst [Kd.int .u32], Pk.fn 112]
abbrev Zym : List Pk := [Pk.bool]
def Zbgk (s0 : List UInt32) (K : Bool -> Prop) : Prop :=
 (WfPs Zbbj (s0, (), ()) ->
 Ztc s0 (fun x7 =>
 WfPs Zvm (x7, ()) ->
 K (decide ((x7 : Int) ≥ 0))))
noncomputable def Zcqc : Tab := ⟨[(Zun, Zlz 1 [(Zlp, Zbws)])], []⟩
abbrev Zboq (x : PkTs Zxq) (K : PkTs Zym -> Prop) : Prop := Zbgk x.1 (fun r0 => K (r0, ()))
theorem Zcfj : FnQ Tryz.prog Zuk Zxq Zym Zboq := (Zq Zctt (tab := Zcqc) ⟨⟨Zbbp ⟨Zcrn, trivial⟩, trivial⟩, trivial⟩ rfl).of_eq (by kernel_rfl)
noncomputable def Zbnc : Ct := ctRd Zxq Zym Zboq
theorem Zcqk : Zk Tryz.prog Zuk Zbnc := Zbw Zcfj
theorem Zcny : Known Tryz.prog Zlu Tryz.f110 Zcy.plan (Zg Tryz.f110) := by refine ⟨Tryz.func110, ?_, ?_, ?_, ?_, ?_⟩ <;> kernel_rfl
abbrev Zux : List Pk := [Pk.agg [Kd.bool, Kd.lst [Kd.int .u32]]]
abbrev Zut : List Pk := [Pk.bool]
def Zxs (s0 : Bool × List UInt32) (K : Bool -> Prop) : Prop :=
 (WfPs Zxq (s0.2, (), ()) ->
 Zbgk s0.2 (fun x5 =>
 WfPs Zym (x5, ()) ->
 K x5))
noncomputable def Zcge : Tab := ⟨[(Zuk, Zlz 1 [(Zlp, Zbnc)])], []⟩
abbrev Zbny (x : PkTs Zux) (K : PkTs Zut -> Prop) : Prop := Zxs x.1 (fun r0 => K (r0, ()))
theorem Zcbj : FnQ Tryz.prog Zlu Zux Zut Zbny := (Zq Zcny (tab := Zcge) ⟨⟨Zbbp ⟨Zcqk, trivial⟩, trivial⟩, trivial⟩ rfl).of_eq (by kernel_rfl)
noncomputable def Zbph : Ct := ctRd Zux Zut Zbny
theorem Zcru : Zk Tryz.prog Zlu Zbph := Zbw Zcbj
def Zbus : PLoop := ⟨[(8, PK.int .i64)], [0, 1, 7], []⟩
def Zcuv : PPlan := ⟨[], [(2, Zbus)], [], [], [], []⟩
theorem Zcdr : Known Tryz.prog Zban Tryz.f135 Zcuv.plan (Zg Tryz.f135) := by refine ⟨Tryz.func135, ?_, ?_, ?_, ?_, ?_⟩ <;> kernel_rfl
abbrev Ztj : List Pk := [Pk.lst [Kd.bool, Kd.lst [Kd.int .u32]], Pk.fn 110]
abbrev Zbbc : List Pk := [Pk.int .i64]
def Zbfl (s0 : List (Bool × List UInt32)) (x8 : Int) (next2 : (Int × Unit) -> Prop) (K : Int -> Prop) : Prop :=
 IfB (decide ((x8 : Int) < (s0.length : Int)))
 ((0 : Int) <= x8 ∧ AtN s0 x8.toNat fun x14 =>
 WfT Zdc x14 ->
 (WfPs Zux (x14, ()) ->
 Zxs x14 (fun x16 =>
 WfPs Zut (x16, ()) ->
 IfB x16
 (K x8)
 (next2 ((IntKind.wrap .i64 (x8 + 1)), ())))))
 (K (-1))
def Zzi (s0 : List (Bool × List UInt32)) (K : Int -> Prop) : Prop :=
 Zm (Int × Unit) ((0 : Int), ()) fun y next =>
 WfY Zbus.kinds y ->
 Zbfl s0 y.1 next K
noncomputable def Zcad : Tab := ⟨[(Zlu, Zbph)], []⟩
abbrev Zbqs (x : PkTs Ztj) (K : PkTs Zbbc -> Prop) : Prop := Zzi x.1 (fun r0 => K (r0, ()))
theorem Zcpl : FnQ Tryz.prog Zban Ztj Zbbc Zbqs := (Zq Zcdr (tab := Zcad) ⟨⟨Zcru, trivial⟩, trivial⟩ rfl).of_eq (by kernel_rfl)
noncomputable def Zbpv : Ct := ctRd Ztj Zbbc Zbqs
theorem Zciu : Zk Tryz.prog Zban Zbpv := Zbw Zcpl
theorem Zcse : Known Tryz.prog Zbaa Tryz.f109 Zcy.plan (Zg Tryz.f109) := by refine ⟨Tryz.func109, ?_, ?_, ?_, ?_, ?_⟩ <;> kernel_rfl
abbrev Zvq : List Pk := [Pk.lst [Kd.bool, Kd.lst [Kd.int .u32]], Pk.fn 110]
abbrev Zuz : List Pk := [Pk.bool]
def Zbde (s0 : List (Bool × List UInt32)) (K : Bool -> Prop) : Prop :=
 (WfPs Ztj (s0, (), ()) ->
 Zzi s0 (fun x7 =>
 WfPs Zbbc (x7, ()) ->
 K (decide ((x7 : Int) ≥ 0))))
noncomputable def Zcbe : Tab := ⟨[(Zban, Zlz 1 [(Zlu, Zbpv)])], []⟩
abbrev Zbnd (x : PkTs Zvq) (K : PkTs Zuz -> Prop) : Prop := Zbde x.1 (fun r0 => K (r0, ()))
theorem Zbzu : FnQ Tryz.prog Zbaa Zvq Zuz Zbnd := (Zq Zcse (tab := Zcbe) ⟨⟨Zbbp ⟨Zciu, trivial⟩, trivial⟩, trivial⟩ rfl).of_eq (by kernel_rfl)
noncomputable def Zbkx : Ct := ctRd Zvq Zuz Zbnd
theorem Zcke : Zk Tryz.prog Zbaa Zbkx := Zbw Zbzu
theorem Zcpa : Known Tryz.prog Zua Tryz.f78 Zcy.plan (Zg Tryz.f78) := by refine ⟨Tryz.func78, ?_, ?_, ?_, ?_, ?_⟩ <;> kernel_rfl
abbrev Zzr : List Pk := [Pk.lst [Kd.bool, Kd.lst [Kd.int .u32]]]
abbrev Zbaw : List Pk := [Pk.bool]
def Zvy (p0 : List (Bool × List UInt32)) (K : Bool -> Prop) : Prop :=
 (WfPs Zvq (p0, (), ()) ->
 Zbde p0 (fun x4 =>
 WfPs Zuz (x4, ()) ->
 K x4))
noncomputable def Zckr : Tab := ⟨[(Zbaa, Zlz 1 [(Zlu, Zbkx)])], []⟩
abbrev Zbwn (x : PkTs Zzr) (K : PkTs Zbaw -> Prop) : Prop := Zvy x.1 (fun r0 => K (r0, ()))
theorem Zckh : FnQ Tryz.prog Zua Zzr Zbaw Zbwn := (Zq Zcpa (tab := Zckr) ⟨⟨Zbbp ⟨Zcke, trivial⟩, trivial⟩, trivial⟩ rfl).of_eq (by kernel_rfl)
noncomputable def Zbrv : Ct := ctRd Zzr Zbaw Zbwn
theorem Zcmn : Zk Tryz.prog Zua Zbrv := Zbw Zckh
def Zbiy : PLoop := ⟨[(87, PK.int .i64)], [7, 85, 86], [(7, [PK.row Zee [Kd.int .u8]])]⟩
def Zcpr : PPlan := ⟨[(14, [0, 1, 2, 4, 5, 3, 6, 7, 8], [80])], [(16, Zbiy)], [], [], [], []⟩
theorem Zcsn : Known Tryz.prog Ztd Tryz.f38 Zcpr.plan (Zg Tryz.f38) := by refine ⟨Tryz.func38, ?_, ?_, ?_, ?_, ?_⟩ <;> kernel_rfl
abbrev Zbap : List Pk := [Pk.agg [Kd.int .i64, Kd.lst [Kd.bool, Kd.lst [Kd.int .u32]], Kd.int .u32, Kd.bool, Kd.int .u32, Kd.bool, Kd.int .u32, Kd.bool, Kd.bool, Kd.int .u32, Kd.int .u32, Kd.lst [Kd.int .u32], Kd.lst [Kd.int .i64, Kd.lst [Kd.int .u8]]], Pk.bool]
abbrev Ztp : List Pk := [Pk.own Zee [Kd.int .u8], Pk.int .i64]
def Zbit (a0 : Ty1) (x87 : Int) (c0 : List UInt8) (next16 : (Int × List UInt8 × Unit) -> Prop) (K : List UInt8 -> Int -> Prop) : Prop :=
 IfB (decide ((x87 : Int) < (a0.2.2.2.2.2.2.2.2.2.2.2.2.length : Int)))
 ((0 : Int) <= x87 ∧ AtN a0.2.2.2.2.2.2.2.2.2.2.2.2 x87.toNat fun x89 =>
 WfT Zir x89 ->
 (WfY Zlb (c0, ()) ->
 WfPs Zbab ((224 : Int), x89.1, ([x89.2] : List (List UInt8)), ()) ->
 Zld c0 (224 : Int) x89.1 ([x89.2] : List (List UInt8)) (fun ox970 =>
 WfY Zlb (ox970, ()) ->
 WfPs Zty () ->
 next16 ((IntKind.wrap .i64 (x87 + 1)), ox970, ()))))
 (K c0 0)
def Zbjs (j13 : List UInt8) (a0 : Ty1) (K : List UInt8 -> Int -> Prop) : Prop :=
 Zm (Int × List UInt8 × Unit) ((0 : Int), j13, ()) fun y next =>
 WfY Zbiy.kinds y ->
 Zbit a0 y.1 y.2.1 next K
def Zbal (a0 : Ty1) (j13 : List UInt8) (K : List UInt8 -> Int -> Prop) : Prop :=
 Zbjs j13 a0 K
def Zos (a0 : Ty1) (j14 : List UInt8) (j14_1 : Bool) (K : List UInt8 -> Int -> Prop) : Prop :=
 IfB j14_1
 ((WfPs Zgs ((a0.2.2.2.2.2.2.2.2.2.1.toNat : Int), ()) ->
 Zgj (a0.2.2.2.2.2.2.2.2.2.1.toNat : Int) (fun x78 =>
 WfPs Zgk (x78, ()) ->
 (WfPs Zgs ((a0.2.2.2.2.2.2.2.2.2.2.1.toNat : Int), ()) ->
 Zgj (a0.2.2.2.2.2.2.2.2.2.2.1.toNat : Int) (fun x81 =>
 WfPs Zgk (x81, ()) ->
 (WfY Zdf (j14, ()) ->
 WfPs Zha ((18 : Int), ([x78, x81] : List (List UInt8)), ()) ->
 Zfi j14 (18 : Int) ([x78, x81] : List (List UInt8)) (fun ox830 =>
 WfY Zdf (ox830, ()) ->
 WfPs Zgh () ->
 Zbal a0 ox830 K)))))))
 (Zbal a0 j14 K)
def Zbas (four1 : Bool) (a0 : Ty1) (j14 : List UInt8) (K : List UInt8 -> Int -> Prop) : Prop :=
 IfB (!four1)
 (IfB a0.2.2.2.2.2.2.2.2.1
 (Zos a0 j14 (decide (((a0.2.2.2.2.2.2.2.2.2.1.toNat : Int) : Int) > 65535)) K)
 (Zos a0 j14 false K))
 (Zos a0 j14 false K)
def Zye (four1 : Bool) (a0 : Ty1) (ox460 : List UInt8) (j15 : Bool) (K : List UInt8 -> Int -> Prop) : Prop :=
 IfB j15
 ((WfPs Zrh (a0.2.1, true, ()) ->
 Zqq a0.2.1 true (fun x57r0 x57r1 =>
 WfPs Znr (x57r0, x57r1, ()) ->
 (WfY Zdf (ox460, ()) ->
 WfPs Zha ((17 : Int), ([x57r0] : List (List UInt8)), ()) ->
 Zfi ox460 (17 : Int) ([x57r0] : List (List UInt8)) (fun ox630 =>
 WfY Zdf (ox630, ()) ->
 WfPs Zgh () ->
 Zbas four1 a0 ox630 K)))))
 (Zbas four1 a0 ox460 K)
def Zzy (a0 : Ty1) (four1 : Bool) (K : List UInt8 -> Int -> Prop) : Prop :=
 (WfPs Zbbe (((a0.1, a0.2.1, (ofI .u32 (a0.2.2.1.toNat : Int)), a0.2.2.2.1, (ofI .u32 (a0.2.2.2.2.1.toNat : Int)), a0.2.2.2.2.2.1, (ofI .u32 (a0.2.2.2.2.2.2.1.toNat : Int)), a0.2.2.2.2.2.2.2.1, a0.2.2.2.2.2.2.2.2.1, (ofI .u32 (a0.2.2.2.2.2.2.2.2.2.1.toNat : Int)), (ofI .u32 (a0.2.2.2.2.2.2.2.2.2.2.1.toNat : Int)), a0.2.2.2.2.2.2.2.2.2.2.2.1, a0.2.2.2.2.2.2.2.2.2.2.2.2) : Ty1), ()) ->
 Zwb ((a0.1, a0.2.1, (ofI .u32 (a0.2.2.1.toNat : Int)), a0.2.2.2.1, (ofI .u32 (a0.2.2.2.2.1.toNat : Int)), a0.2.2.2.2.2.1, (ofI .u32 (a0.2.2.2.2.2.2.1.toNat : Int)), a0.2.2.2.2.2.2.2.1, a0.2.2.2.2.2.2.2.2.1, (ofI .u32 (a0.2.2.2.2.2.2.2.2.2.1.toNat : Int)), (ofI .u32 (a0.2.2.2.2.2.2.2.2.2.2.1.toNat : Int)), a0.2.2.2.2.2.2.2.2.2.2.2.1, a0.2.2.2.2.2.2.2.2.2.2.2.2) : Ty1) (fun x13 =>
 WfPs Zbaq (x13, ()) ->
 IfB ((x13 : Int) != 0)
 (K ([] : List UInt8) x13)
 ((WfPs Zrh (a0.2.1, four1, ()) ->
 Zqq a0.2.1 four1 (fun x23r0 x23r1 =>
 WfPs Znr (x23r0, x23r1, ()) ->
 (WfY Zdf (([] : List UInt8), ()) ->
 WfPs Zha ((1 : Int), ([([(ofI .u8 (IntKind.wrap .u8 a0.1))] : List UInt8)] : List (List UInt8)), ()) ->
 Zfi ([] : List UInt8) (1 : Int) ([([(ofI .u8 (IntKind.wrap .u8 a0.1))] : List UInt8)] : List (List UInt8)) (fun ox320 =>
 WfY Zdf (ox320, ()) ->
 WfPs Zgh () ->
 (WfY Zdf (ox320, ()) ->
 WfPs Zha ((2 : Int), ([x23r0] : List (List UInt8)), ()) ->
 Zfi ox320 (2 : Int) ([x23r0] : List (List UInt8)) (fun ox360 =>
 WfY Zdf (ox360, ()) ->
 WfPs Zgh () ->
 (WfPs Zgs ((a0.2.2.1.toNat : Int), ()) ->
 Zgj (a0.2.2.1.toNat : Int) (fun x40 =>
 WfPs Zgk (x40, ()) ->
 (WfY Zdf (ox360, ()) ->
 WfPs Zha ((3 : Int), ([x40] : List (List UInt8)), ()) ->
 Zfi ox360 (3 : Int) ([x40] : List (List UInt8)) (fun ox420 =>
 WfY Zdf (ox420, ()) ->
 WfPs Zgh () ->
 (WfY Zsc (ox420, ()) ->
 WfPs Zbgg (((a0.1, a0.2.1, (ofI .u32 (a0.2.2.1.toNat : Int)), a0.2.2.2.1, (ofI .u32 (a0.2.2.2.2.1.toNat : Int)), a0.2.2.2.2.2.1, (ofI .u32 (a0.2.2.2.2.2.2.1.toNat : Int)), a0.2.2.2.2.2.2.2.1, a0.2.2.2.2.2.2.2.2.1, (ofI .u32 (a0.2.2.2.2.2.2.2.2.2.1.toNat : Int)), (ofI .u32 (a0.2.2.2.2.2.2.2.2.2.2.1.toNat : Int)), a0.2.2.2.2.2.2.2.2.2.2.2.1, a0.2.2.2.2.2.2.2.2.2.2.2.2) : Ty1), four1, ()) ->
 Zpf ox420 ((a0.1, a0.2.1, (ofI .u32 (a0.2.2.1.toNat : Int)), a0.2.2.2.1, (ofI .u32 (a0.2.2.2.2.1.toNat : Int)), a0.2.2.2.2.2.1, (ofI .u32 (a0.2.2.2.2.2.2.1.toNat : Int)), a0.2.2.2.2.2.2.2.1, a0.2.2.2.2.2.2.2.2.1, (ofI .u32 (a0.2.2.2.2.2.2.2.2.2.1.toNat : Int)), (ofI .u32 (a0.2.2.2.2.2.2.2.2.2.2.1.toNat : Int)), a0.2.2.2.2.2.2.2.2.2.2.2.1, a0.2.2.2.2.2.2.2.2.2.2.2.2) : Ty1) four1 (fun ox460 =>
 WfY Zsc (ox460, ()) ->
 WfPs Zbfi () ->
 IfB (!four1)
 ((WfPs Zzr (a0.2.1, ()) ->
 Zvy a0.2.1 (fun x52 =>
 WfPs Zbaw (x52, ()) ->
 Zye four1 a0 ox460 x52 K)))
 (Zye four1 a0 ox460 false K))))))))))))))))
noncomputable def Zcmb : Tab := ⟨[(Zwd, Zbpj), (Zzl, Zbkr), (Znq, Zbdb), (Zly, Zug), (Zsy, Zbuh), (Zua, Zbrv), (Zrp, Zbhu)], []⟩
abbrev Zbnj (x : PkTs Zbap) (K : PkTs Ztp -> Prop) : Prop := Zzy x.1 x.2.1 (fun r0 r1 => K (r0, r1, ()))
theorem Zbyo : FnQ Tryz.prog Ztd Zbap Ztp Zbnj := (Zq Zcsn (tab := Zcmb) ⟨⟨Zcff, Zcnc, Zbsj, Zbfh, Zclj, Zcmn, Zbwt, trivial⟩, trivial⟩ rfl).of_eq (by kernel_rfl)
noncomputable def Zbox : Ct := Zcq Zbap Ztp Zbnj
theorem Zcbb : Zk Tryz.prog Ztd Zbox := Zcx Zbyo
theorem Zchc : Known Tryz.prog Zna Tryz.f157 Zcy.plan (Zg Tryz.f157) := by refine ⟨Tryz.func157, ?_, ?_, ?_, ?_, ?_⟩ <;> kernel_rfl
noncomputable def Zctf : Tab := ⟨[], []⟩
noncomputable def Zbvz : Ct := Zys Tryz.prog Zctf Zcy (Zg Tryz.f157) Tryz.f157.ntmps Tryz.f157.results.toList
theorem Zccq : Zk Tryz.prog Zna Zbvz := Zbkw Zchc ⟨trivial, trivial⟩
def Zbvo : PLoop := ⟨[(0, PK.lst [Kd.int .u8]), (7, PK.row Ziw [Kd.bool, Kd.lst [Kd.int .u32]])], [6], []⟩
def Zbnf : PLoop := ⟨[(11, PK.int .u32), (65, PK.int .i64)], [8, 63, 64], [(8, [PK.bool, PK.row Zdh [Kd.int .u32]])]⟩
def Zbiv : PLoop := ⟨[], [0, 6, 7, 8, 9], [(8, [PK.bool, PK.row Zdh [Kd.int .u32]])]⟩
def Zcez : PPlan := ⟨[(18, [0, 1, 4, 5, 6, 2, 3, 7, 8], [])], [(5, Zbvo), (13, Zbnf), (4000010, Zbiv)], [], [], [], []⟩
theorem Zcsa : Known Tryz.prog Zpc Tryz.f127 Zcez.plan (Zg Tryz.f127) := by refine ⟨Tryz.func127, ?_, ?_, ?_, ?_, ?_⟩ <;> kernel_rfl
abbrev Zbom : List Pk := [Pk.lst [Kd.int .u8], Pk.bool]
abbrev Zbru : List Pk := [Pk.lst [Kd.bool, Kd.lst [Kd.int .u32]], Pk.int .i64]
def Zbzh  (K : List (Bool × List UInt32) -> Int -> Prop) : Prop :=
 K ([] : List (Bool × List UInt32)) 7
def Zbuv (b0_1 : List UInt8) (j1 : Int) (p7 : List (Bool × List UInt32)) (x46 : UInt8) (x51 : UInt8) (next5 : (List UInt8 × List (Bool × List UInt32) × Unit) -> Prop) (c0 : Bool) (c1 : List UInt32) (K : List (Bool × List UInt32) -> Int -> Prop) : Prop :=
 (0 : Int) <= (IntKind.wrap .i64 (2 + (IntKind.wrap .i64 ((IntKind.wrap .i64 (x51.toNat : Int)) * j1)))) ∧ (IntKind.wrap .i64 (2 + (IntKind.wrap .i64 ((IntKind.wrap .i64 (x51.toNat : Int)) * j1)))) <= (b0_1.length : Int) ∧
 p7.length + ([(c0, c1)] : List (Bool × List UInt32)).length <= 4398046511008 ∧
 next5 ((b0_1.drop ((IntKind.wrap .i64 (2 + (IntKind.wrap .i64 ((IntKind.wrap .i64 (x51.toNat : Int)) * j1)))).toNat)), (p7 ++ ([(c0, c1)] : List (Bool × List UInt32))), ())
def Zbcg (c0_1 : Bool) (x62 : List UInt8) (next5 : (List UInt8 × List (Bool × List UInt32) × Unit) -> Prop) (next4000010 : (Bool × List UInt32 × Unit) -> Prop) (as11 : Int) (x65 : Int) (c0_2 : Bool) (c1_2 : List UInt32) (next13 : (Int × Int × Bool × List UInt32 × Unit) -> Prop) (K : List (Bool × List UInt32) -> Int -> Prop) : Prop :=
 IfB (decide ((x65 : Int) < (x62.length : Int)))
 ((0 : Int) <= x65 ∧ AtN x62 x65.toNat fun x67 =>
 WfT Zdw x67 ->
 (0 : Int) <= 8 ∧
 next13 ((Zeo .u32 (IntKind.wrap .u32 (as11 * 256)) (IntKind.wrap .u32 (x67.toNat : Int))), (IntKind.wrap .i64 (x65 + 1)), c0_2, c1_2, ()))
 (c1_2.length + ([(ofI .u32 as11)] : List UInt32).length <= 35184372088736 ∧
 next4000010 (c0_2, (c1_2 ++ ([(ofI .u32 as11)] : List UInt32)), ()))
def Zbnw (b0_1 : List UInt8) (j1 : Int) (p7 : List (Bool × List UInt32)) (x46 : UInt8) (x51 : UInt8) (next5 : (List UInt8 × List (Bool × List UInt32) × Unit) -> Prop) (c0_1 : Bool) (c1_1 : List UInt32) (x62 : List UInt8) (next4000010 : (Bool × List UInt32 × Unit) -> Prop) (K : List (Bool × List UInt32) -> Int -> Prop) : Prop :=
 Zm (Int × Int × Bool × List UInt32 × Unit) ((0 : Int), (0 : Int), c0_1, c1_1, ()) fun y next =>
 WfY Zbnf.kinds y ->
 Zbcg c0_1 x62 next5 next4000010 y.1 y.2.1 y.2.2.1 y.2.2.2.1 next K
def Zim (b0_1 : List UInt8) (j1 : Int) (p7 : List (Bool × List UInt32)) (next5 : (List UInt8 × List (Bool × List UInt32) × Unit) -> Prop) (j3 : Bool) (K : List (Bool × List UInt32) -> Int -> Prop) : Prop :=
 IfB j3
 (Zbzh K)
 ((0 : Int) <= 0 ∧ AtN b0_1 0 fun x46 =>
 WfT Zdw x46 ->
 (0 : Int) <= 1 ∧ AtN b0_1 1 fun x51 =>
 WfT Zdw x51 ->
 (0 : Int) <= (IntKind.wrap .i64 (2 + (IntKind.wrap .i64 ((IntKind.wrap .i64 (x51.toNat : Int)) * j1)))) ∧ (IntKind.wrap .i64 (2 + (IntKind.wrap .i64 ((IntKind.wrap .i64 (x51.toNat : Int)) * j1)))) <= (b0_1.length : Int) ∧
 (0 : Int) <= 2 ∧ 2 <= ((IntKind.wrap .i64 (2 + (IntKind.wrap .i64 ((IntKind.wrap .i64 (x51.toNat : Int)) * j1)))).toNat : Int) ∧
 IfB (decide ((j1 : Int) < 1))
 (False)
 (Zjx.pre (((b0_1.take ((IntKind.wrap .i64 (2 + (IntKind.wrap .i64 ((IntKind.wrap .i64 (x51.toNat : Int)) * j1)))).toNat)).drop 2), j1, ()) ∧
 Zil (fun (y : (Bool × List UInt32 × Unit)) => WfY Zbiv.kinds y -> Zbuv b0_1 j1 p7 x46 x51 next5 y.1 y.2.1 K)
 (fun (y : (Bool × List UInt32 × Unit)) (x : (List UInt8 × Unit)) (next : (Bool × List UInt32 × Unit) -> Prop) => WfY Zbiv.kinds y -> WfPs Zjx.ps x -> Zbnw b0_1 j1 p7 x46 x51 next5 y.1 y.2.1 x.1 next K) (Zjx.xs (((b0_1.take ((IntKind.wrap .i64 (2 + (IntKind.wrap .i64 ((IntKind.wrap .i64 (x51.toNat : Int)) * j1)))).toNat)).drop 2), j1, ())) ((((x46.toNat : Int) : Int) == 1), ([] : List UInt32), ())))
def Zbrx (j1 : Int) (b0_1 : List UInt8) (p7 : List (Bool × List UInt32)) (next5 : (List UInt8 × List (Bool × List UInt32) × Unit) -> Prop) (K : List (Bool × List UInt32) -> Int -> Prop) : Prop :=
 IfB (decide (((b0_1.length : Int) : Int) > 0))
 (IfB (decide (((b0_1.length : Int) : Int) < 2))
 (Zim b0_1 j1 p7 next5 true K)
 ((0 : Int) <= 0 ∧ AtN b0_1 0 fun x23 =>
 WfT Zdw x23 ->
 IfB (((x23.toNat : Int) : Int) != 1)
 ((0 : Int) <= 0 ∧ AtN b0_1 0 fun x28 =>
 WfT Zdw x28 ->
 IfB (((x28.toNat : Int) : Int) != 2)
 (Zim b0_1 j1 p7 next5 true K)
 ((0 : Int) <= 1 ∧ AtN b0_1 1 fun x35 =>
 WfT Zdw x35 ->
 Zim b0_1 j1 p7 next5 (decide (((IntKind.wrap .i64 ((IntKind.wrap .i64 (x35.toNat : Int)) * j1)) : Int) > (IntKind.wrap .i64 ((b0_1.length : Int) - 2)))) K))
 ((0 : Int) <= 1 ∧ AtN b0_1 1 fun x35_1 =>
 WfT Zdw x35_1 ->
 Zim b0_1 j1 p7 next5 (decide (((IntKind.wrap .i64 ((IntKind.wrap .i64 (x35_1.toNat : Int)) * j1)) : Int) > (IntKind.wrap .i64 ((b0_1.length : Int) - 2)))) K)))
 ((WfPs Zmj (p7, ()) ->
 Zmb p7 (fun x89 =>
 WfPs Zli (x89, ()) ->
 IfB ((x89 : Int) == 0)
 (K p7 0)
 (K ([] : List (Bool × List UInt32)) 7))))
def Zbbs (b0 : List UInt8) (j1 : Int) (K : List (Bool × List UInt32) -> Int -> Prop) : Prop :=
 Zm (List UInt8 × List (Bool × List UInt32) × Unit) (b0, ([] : List (Bool × List UInt32)), ()) fun y next =>
 WfY Zbvo.kinds y ->
 Zbrx j1 y.1 y.2.1 next K
def Zbea (b0 : List UInt8) (four1 : Bool) (K : List (Bool × List UInt32) -> Int -> Prop) : Prop :=
 IfB four1
 (Zbbs b0 4 K)
 (Zbbs b0 2 K)
noncomputable def Zcqn : Tab := ⟨[(Zjf, Zxy), (Zna, Zbvz)], [(Zhf, Zjx)]⟩
abbrev Zcvh (x : PkTs Zbom) (K : PkTs Zbru -> Prop) : Prop := Zbea x.1 x.2.1 (fun r0 r1 => K (r0, r1, ()))
theorem Zcby : FnQ Tryz.prog Zpc Zbom Zbru Zcvh := (Zq Zcsa (tab := Zcqn) ⟨⟨Zbel, Zccq, trivial⟩, ⟨Zbmn, trivial⟩⟩ rfl).of_eq (by kernel_rfl)
def Zbjw : PLoop := ⟨[(3, PK.int .i64), (8, PK.int .i64)], [6, 7], []⟩
def Zcrp : PPlan := ⟨[], [(3, Zbjw)], [], [], [], []⟩
theorem Zclc : Known Tryz.prog Zbbd Tryz.f129 Zcrp.plan (Zg Tryz.f129) := by refine ⟨Tryz.func129, ?_, ?_, ?_, ?_, ?_⟩ <;> kernel_rfl
abbrev Zog : List Pk := [Pk.lst [Kd.bool, Kd.lst [Kd.int .u32]]]
abbrev Zpt : List Pk := [Pk.int .i64]
def Zbib (p0 : List (Bool × List UInt32)) (x8 : Int) (next3 : (Int × Int × Unit) -> Prop) (j0 : Int) (K : Int -> Prop) : Prop :=
 next3 (j0, (IntKind.wrap .i64 (x8 + 1)), ())
def Zbim (p0 : List (Bool × List UInt32)) (n3 : Int) (x8 : Int) (next3 : (Int × Int × Unit) -> Prop) (K : Int -> Prop) : Prop :=
 IfB (decide ((x8 : Int) < (p0.length : Int)))
 ((0 : Int) <= x8 ∧ AtN p0 x8.toNat fun x10 =>
 WfT Zdc x10 ->
 IfB x10.1
 (Zbib p0 x8 next3 (IntKind.wrap .i64 (n3 + 1)) K)
 (Zbib p0 x8 next3 (IntKind.wrap .i64 (n3 + (x10.2.length : Int))) K))
 (K n3)
def Zro (p0 : List (Bool × List UInt32)) (K : Int -> Prop) : Prop :=
 Zm (Int × Int × Unit) ((0 : Int), (0 : Int), ()) fun y next =>
 WfY Zbjw.kinds y ->
 Zbim p0 y.1 y.2.1 next K
noncomputable def Zcpx : Tab := ⟨[], []⟩
abbrev Zbvr (x : PkTs Zog) (K : PkTs Zpt -> Prop) : Prop := Zro x.1 (fun r0 => K (r0, ()))
theorem Zchf : FnQ Tryz.prog Zbbd Zog Zpt Zbvr := (Zq Zclc (tab := Zcpx) ⟨trivial, trivial⟩ rfl).of_eq (by kernel_rfl)
noncomputable def Zbqt : Ct := ctRd Zog Zpt Zbvr
theorem Zcod : Zk Tryz.prog Zbbd Zbqt := Zbw Zchf
theorem Zcdk : Known Tryz.prog Zwe Tryz.f158 Zcy.plan (Zg Tryz.f158) := by refine ⟨Tryz.func158, ?_, ?_, ?_, ?_, ?_⟩ <;> kernel_rfl
abbrev Zyv : List Pk := [Pk.lst [Kd.int .u32]]
abbrev Zuc : List Pk := [Pk.own Zdh [Kd.int .u32]]
def Zbdr (s0 : List UInt32) (K : List UInt32 -> Prop) : Prop :=
 ∀ isnil : Bool, (isnil = true -> s0.length = 0) ->
 IfB isnil
 (K ([] : List UInt32))
 (([] : List UInt32).length + s0.length <= 35184372088736 ∧
 K (([] : List UInt32) ++ s0))
noncomputable def Zcfh : Tab := ⟨[], []⟩
abbrev Zbke (x : PkTs Zyv) (K : PkTs Zuc -> Prop) : Prop := Zbdr x.1 (fun r0 => K (r0, ()))
theorem Zcov : FnQ Tryz.prog Zwe Zyv Zuc Zbke := (Zq Zcdk (tab := Zcfh) ⟨trivial, trivial⟩ rfl).of_eq (by kernel_rfl)
noncomputable def Zbtw : Ct := Zcq Zyv Zuc Zbke
theorem Zcpw : Zk Tryz.prog Zwe Zbtw := Zcx Zcov
def Zbsr : PLoop := ⟨[(3, PK.row Ziw [Kd.bool, Kd.lst [Kd.int .u32]]), (11, PK.int .i64)], [9, 10], []⟩
def Zcuc : PPlan := ⟨[(5, [0, 1, 2, 3, 4, 5, 6, 7, 8, 9], [17])], [(3, Zbsr)], [], [], [], []⟩
theorem Zcsp : Known Tryz.prog Zpn Tryz.f130 Zcuc.plan (Zg Tryz.f130) := by refine ⟨Tryz.func130, ?_, ?_, ?_, ?_, ?_⟩ <;> kernel_rfl
abbrev Zlk : List Pk := [Pk.lst [Kd.bool, Kd.lst [Kd.int .u32]]]
abbrev Zlr : List Pk := [Pk.own Ziw [Kd.bool, Kd.lst [Kd.int .u32]]]
def Zbdc (p0 : List (Bool × List UInt32)) (out3 : List (Bool × List UInt32)) (x11 : Int) (next3 : (List (Bool × List UInt32) × Int × Unit) -> Prop) (K : List (Bool × List UInt32) -> Prop) : Prop :=
 IfB (decide ((x11 : Int) < (p0.length : Int)))
 ((0 : Int) <= x11 ∧ AtN p0 x11.toNat fun x13 =>
 WfT Zdc x13 ->
 (WfPs Zyv (x13.2, ()) ->
 Zbdr x13.2 (fun x20 =>
 WfPs Zuc (x20, ()) ->
 out3.length + ([(x13.1, x20)] : List (Bool × List UInt32)).length <= 4398046511008 ∧
 next3 ((out3 ++ ([(x13.1, x20)] : List (Bool × List UInt32))), (IntKind.wrap .i64 (x11 + 1)), ()))))
 (K out3)
def Zlt (p0 : List (Bool × List UInt32)) (K : List (Bool × List UInt32) -> Prop) : Prop :=
 (0 : Int) <= 0 ∧ (0 : Int) <= (p0.length : Int) ∧ ((p0.length : Int) : Int) <= 1000000000 ∧
 Zm (List (Bool × List UInt32) × Int × Unit) ((List.replicate 0 ((false, ([] : List UInt32)) : Bool × List UInt32)), (0 : Int), ()) fun y next =>
 WfY Zbsr.kinds y ->
 Zbdc p0 y.1 y.2.1 next K
noncomputable def Zcjm : Tab := ⟨[(Zwe, Zbtw)], []⟩
abbrev Zbmk (x : PkTs Zlk) (K : PkTs Zlr -> Prop) : Prop := Zlt x.1 (fun r0 => K (r0, ()))
theorem Zcec : FnQ Tryz.prog Zpn Zlk Zlr Zbmk := (Zq Zcsp (tab := Zcjm) ⟨⟨Zcpw, trivial⟩, trivial⟩ rfl).of_eq (by kernel_rfl)
noncomputable def Zbec : Ct := Zcq Zlk Zlr Zbmk
theorem Zbxk : Zk Tryz.prog Zpn Zbec := Zcx Zcec
def Zblf : PLoop := ⟨[(1, PK.int .i64), (5, PK.row Ziw [Kd.bool, Kd.lst [Kd.int .u32]]), (11, PK.int .i64)], [9, 10], []⟩
def Zcqs : PPlan := ⟨[], [(3, Zblf)], [], [], [], []⟩
theorem Zclx : Known Tryz.prog Zzv Tryz.f131 Zcqs.plan (Zg Tryz.f131) := by refine ⟨Tryz.func131, ?_, ?_, ?_, ?_, ?_⟩ <;> kernel_rfl
abbrev Zwc : List Pk := [Pk.lst [Kd.bool, Kd.lst [Kd.int .u32]], Pk.int .i64]
abbrev Zbav : List Pk := [Pk.own Ziw [Kd.bool, Kd.lst [Kd.int .u32]]]
def Zud (out5 : List (Bool × List UInt32)) (x14 : Bool × List UInt32) (x9 : List (Bool × List UInt32)) (x11 : Int) (next3 : (Int × List (Bool × List UInt32) × Int × Unit) -> Prop) (j0 : Int) (j3 : List UInt32) (K : List (Bool × List UInt32) -> Prop) : Prop :=
 out5.length + ([(x14.1, j3)] : List (Bool × List UInt32)).length <= 4398046511008 ∧
 next3 (j0, (out5 ++ ([(x14.1, j3)] : List (Bool × List UInt32))), (IntKind.wrap .i64 (x11 + 1)), ())
def Zbiz (x9 : List (Bool × List UInt32)) (n1_1 : Int) (out5 : List (Bool × List UInt32)) (x11 : Int) (next3 : (Int × List (Bool × List UInt32) × Int × Unit) -> Prop) (K : List (Bool × List UInt32) -> Prop) : Prop :=
 IfB (decide ((x11 : Int) < (x9.length : Int)))
 ((0 : Int) <= x11 ∧ x11 < (x9.length : Int) ∧
 AtN x9 x11.toNat fun x14 =>
 WfT Zdc x14 ->
 IfB (decide ((n1_1 : Int) <= 0))
 (K out5)
 (IfB x14.1
 (Zud out5 x14 x9 x11 next3 (IntKind.wrap .i64 (n1_1 - 1)) x14.2 K)
 ((0 : Int) <= (min n1_1 (x14.2.length : Int)) ∧ (min n1_1 (x14.2.length : Int)) <= (x14.2.length : Int) ∧
 Zud out5 x14 x9 x11 next3 (IntKind.wrap .i64 (n1_1 - ((x14.2.take ((min n1_1 (x14.2.length : Int)).toNat)).length : Int))) (x14.2.take ((min n1_1 (x14.2.length : Int)).toNat)) K)))
 (K out5)
def Zth (p0 : List (Bool × List UInt32)) (n1 : Int) (K : List (Bool × List UInt32) -> Prop) : Prop :=
 (WfPs Zlk (p0, ()) ->
 Zlt p0 (fun x9 =>
 WfPs Zlr (x9, ()) ->
 Zm (Int × List (Bool × List UInt32) × Int × Unit) (n1, ([] : List (Bool × List UInt32)), (0 : Int), ()) fun y next =>
 WfY Zblf.kinds y ->
 Zbiz x9 y.1 y.2.1 y.2.2.1 next K))
noncomputable def Zchi : Tab := ⟨[(Zpn, Zbec)], []⟩
abbrev Zbqy (x : PkTs Zwc) (K : PkTs Zbav -> Prop) : Prop := Zth x.1 x.2.1 (fun r0 => K (r0, ()))
theorem Zckx : FnQ Tryz.prog Zzv Zwc Zbav Zbqy := (Zq Zclx (tab := Zchi) ⟨⟨Zbxk, trivial⟩, trivial⟩ rfl).of_eq (by kernel_rfl)
noncomputable def Zbjf : Ct := Zcq Zwc Zbav Zbqy
theorem Zclo : Zk Tryz.prog Zzv Zbjf := Zcx Zckx
def Zcfx : PPlan := ⟨[], [], [25], [], [], []⟩
theorem Zcsr : Known Tryz.prog Zzp Tryz.f159 Zcfx.plan (Zg Tryz.f159) := by refine ⟨Tryz.func159, ?_, ?_, ?_, ?_, ?_⟩ <;> kernel_rfl
abbrev Zvt : List Pk := [Pk.nil, Pk.int .i64]
abbrev Zsz : List Pk := [Pk.own Zdh [Kd.int .u32]]
def Zse (n1 : Int) (K : List UInt32 -> Prop) : Prop :=
 IfB (decide ((n1 : Int) < 0))
 (False)
 (IfB (decide (((IntKind.wrap .i64 (n1 - (IntKind.wrap .i64 (0 - 0)))) : Int) > 0))
 ((0 : Int) <= 0 ∧ 0 <= (0 : Int) ∧
 (0 : Int) < (IntKind.wrap .i64 (n1 - (IntKind.wrap .i64 (0 - 0)))) ∧ (IntKind.wrap .i64 (n1 - (IntKind.wrap .i64 (0 - 0)))) <= 1000000000 ∧
 (0 : Int) <= 0 ∧ 0 <= ((List.replicate (IntKind.wrap .i64 (n1 - (IntKind.wrap .i64 (0 - 0)))).toNat ((ofI .u32 0) : UInt32)).length : Int) ∧
 K ((List.replicate (IntKind.wrap .i64 (n1 - (IntKind.wrap .i64 (0 - 0)))).toNat ((ofI .u32 0) : UInt32)).take 0))
 (K ([] : List UInt32)))
noncomputable def Zcmu : Tab := ⟨[], []⟩
abbrev Zbpe (x : PkTs Zvt) (K : PkTs Zsz -> Prop) : Prop := Zse x.2.1 (fun r0 => K (r0, ()))
theorem Zcug : FnQ Tryz.prog Zzp Zvt Zsz Zbpe := (Zq Zcsr (tab := Zcmu) ⟨trivial, trivial⟩ rfl).of_eq (by kernel_rfl)
noncomputable def Zboy : Ct := Zcq Zvt Zsz Zbpe
theorem Zcmy : Zk Tryz.prog Zzp Zboy := Zcx Zcug
def Zboh : PLoop := ⟨[(3, PK.int .i64), (11, PK.int .i64)], [0, 9, 10], []⟩
def Zbty : PLoop := ⟨[(6, PK.row Zdh [Kd.int .u32]), (27, PK.int .i64)], [25, 26], []⟩
def Zbyw : PPlan := ⟨[], [(3, Zboh), (11, Zbty)], [], [], [], []⟩
theorem Zcfi : Known Tryz.prog Zst Tryz.f132 Zbyw.plan (Zg Tryz.f132) := by refine ⟨Tryz.func132, ?_, ?_, ?_, ?_, ?_⟩ <;> kernel_rfl
abbrev Zwy : List Pk := [Pk.lst [Kd.lst [Kd.int .u32]]]
abbrev Zwu : List Pk := [Pk.own Zdh [Kd.int .u32]]
def Zbfe (slices0 : List (List UInt32)) (newslice6 : List UInt32) (x27 : Int) (next11 : (List UInt32 × Int × Unit) -> Prop) (K : List UInt32 -> Prop) : Prop :=
 IfB (decide ((x27 : Int) < (slices0.length : Int)))
 ((0 : Int) <= x27 ∧ AtN slices0 x27.toNat fun x29 =>
 WfT Zbwg x29 ->
 newslice6.length + x29.length <= 35184372088736 ∧
 next11 ((newslice6 ++ x29), (IntKind.wrap .i64 (x27 + 1)), ()))
 (K newslice6)
def Zbfq (slices0 : List (List UInt32)) (size3 : Int) (x11 : Int) (next3 : (Int × Int × Unit) -> Prop) (K : List UInt32 -> Prop) : Prop :=
 IfB (decide ((x11 : Int) < (slices0.length : Int)))
 ((0 : Int) <= x11 ∧ AtN slices0 x11.toNat fun x13 =>
 WfT Zbwg x13 ->
 IfB (decide (((IntKind.wrap .i64 (size3 + (x13.length : Int))) : Int) < 0))
 (False)
 (next3 ((IntKind.wrap .i64 (size3 + (x13.length : Int))), (IntKind.wrap .i64 (x11 + 1)), ())))
 ((WfPs Zvt ((), size3, ()) ->
 Zse size3 (fun x24 =>
 WfPs Zsz (x24, ()) ->
 Zm (List UInt32 × Int × Unit) (x24, (0 : Int), ()) fun y next =>
 WfY Zbty.kinds y ->
 Zbfe slices0 y.1 y.2.1 next K)))
def Zvb (slices0 : List (List UInt32)) (K : List UInt32 -> Prop) : Prop :=
 Zm (Int × Int × Unit) ((0 : Int), (0 : Int), ()) fun y next =>
 WfY Zboh.kinds y ->
 Zbfq slices0 y.1 y.2.1 next K
noncomputable def Zckv : Tab := ⟨[(Zzp, Zboy)], []⟩
abbrev Zbwi (x : PkTs Zwy) (K : PkTs Zwu -> Prop) : Prop := Zvb x.1 (fun r0 => K (r0, ()))
theorem Zcgf : FnQ Tryz.prog Zst Zwy Zwu Zbwi := (Zq Zcfi (tab := Zckv) ⟨⟨Zcmy, trivial⟩, trivial⟩ rfl).of_eq (by kernel_rfl)
noncomputable def Zbud : Ct := Zcq Zwy Zwu Zbwi
theorem Zcib : Zk Tryz.prog Zst Zbud := Zcx Zcgf
theorem Zcmz : Known Tryz.prog Zbat Tryz.f99 Zcy.plan (Zg Tryz.f99) := by refine ⟨Tryz.func99, ?_, ?_, ?_, ?_, ?_⟩ <;> kernel_rfl
abbrev Zbqd : List Pk := [Pk.lst [Kd.bool, Kd.lst [Kd.int .u32]], Pk.lst [Kd.bool, Kd.lst [Kd.int .u32]]]
abbrev Zbvw : List Pk := [Pk.lst [Kd.bool, Kd.lst [Kd.int .u32]]]
def Zzw (j0 : List (Bool × List UInt32)) (j1 : List (Bool × List UInt32)) (K : List (Bool × List UInt32) -> Prop) : Prop :=
 j0.length + j1.length <= 4398046511008 ∧
 K (j0 ++ j1)
def Zky (x20 : List (Bool × List UInt32)) (x22 : List (Bool × List UInt32)) (j3 : Bool) (K : List (Bool × List UInt32) -> Prop) : Prop :=
 IfB j3
 ((0 : Int) <= (IntKind.wrap .i64 ((x20.length : Int) - 1)) ∧ (IntKind.wrap .i64 ((x20.length : Int) - 1)) < (x20.length : Int) ∧
 AtN x20 ((IntKind.wrap .i64 ((x20.length : Int) - 1)).toNat) fun x54 =>
 WfT Zdc x54 ->
 (0 : Int) <= 0 ∧ 0 < (x22.length : Int) ∧
 AtN x22 0 fun x58 =>
 WfT Zdc x58 ->
 (WfPs Zwy (([x54.2, x58.2] : List (List UInt32)), ()) ->
 Zvb ([x54.2, x58.2] : List (List UInt32)) (fun x60 =>
 WfPs Zwu (x60, ()) ->
 (0 : Int) <= (IntKind.wrap .i64 ((x20.length : Int) - 1)) ∧ (IntKind.wrap .i64 ((x20.length : Int) - 1)) < (x20.length : Int) ∧
 AtN x20 ((IntKind.wrap .i64 ((x20.length : Int) - 1)).toNat) fun el =>
 WfT Zdc el ->
 (0 : Int) <= 1 ∧ 1 <= (x22.length : Int) ∧
 Zzw (x20.set ((IntKind.wrap .i64 ((x20.length : Int) - 1)).toNat) (el.1, x60)) (x22.drop 1) K)))
 (Zzw x20 x22 K)
def Zbfx (two0 : List (Bool × List UInt32)) (four1 : List (Bool × List UInt32)) (K : List (Bool × List UInt32) -> Prop) : Prop :=
 (WfPs Zog (two0, ()) ->
 Zro two0 (fun x10 =>
 WfPs Zpt (x10, ()) ->
 (WfPs Zog (four1, ()) ->
 Zro four1 (fun x12 =>
 WfPs Zpt (x12, ()) ->
 IfB (decide (((IntKind.wrap .i64 (x10 - x12)) : Int) < 0))
 ((WfPs Zlk (two0, ()) ->
 Zlt two0 (fun x17 =>
 WfPs Zlr (x17, ()) ->
 K x17)))
 ((WfPs Zwc (two0, (IntKind.wrap .i64 (x10 - x12)), ()) ->
 Zth two0 (IntKind.wrap .i64 (x10 - x12)) (fun x20 =>
 WfPs Zbav (x20, ()) ->
 (WfPs Zlk (four1, ()) ->
 Zlt four1 (fun x22 =>
 WfPs Zlr (x22, ()) ->
 IfB (decide (((IntKind.wrap .i64 ((x20.length : Int) - 1)) : Int) ≥ 0))
 (IfB (decide (((x22.length : Int) : Int) > 0))
 ((0 : Int) <= (IntKind.wrap .i64 ((x20.length : Int) - 1)) ∧ (IntKind.wrap .i64 ((x20.length : Int) - 1)) < (x20.length : Int) ∧
 AtN x20 ((IntKind.wrap .i64 ((x20.length : Int) - 1)).toNat) fun x38 =>
 WfT Zdc x38 ->
 IfB (!x38.1)
 ((0 : Int) <= 0 ∧ 0 < (x22.length : Int) ∧
 AtN x22 0 fun x45 =>
 WfT Zdc x45 ->
 Zky x20 x22 (!x45.1) K)
 (Zky x20 x22 false K))
 (Zky x20 x22 false K))
 (Zky x20 x22 false K))))))))))
noncomputable def Zcuo : Tab := ⟨[(Zbbd, Zbqt), (Zpn, Zbec), (Zzv, Zbjf), (Zst, Zbud)], []⟩
abbrev Zccm (x : PkTs Zbqd) (K : PkTs Zbvw -> Prop) : Prop := Zbfx x.1 x.2.1 (fun r0 => K (r0, ()))
theorem Zcfo : FnQ Tryz.prog Zbat Zbqd Zbvw Zccm := (Zq Zcmz (tab := Zcuo) ⟨⟨Zcod, Zbxk, Zclo, Zcib, trivial⟩, trivial⟩ rfl).of_eq (by kernel_rfl)
theorem Zcun : Known Tryz.prog Zyn Tryz.f57 Zcy.plan (Zg Tryz.f57) := by refine ⟨Tryz.func57, ?_, ?_, ?_, ?_, ?_⟩ <;> kernel_rfl
abbrev Zbrr : List Pk := [Pk.lst [Kd.int .u8]]
abbrev Zbto : List Pk := [Pk.agg [Kd.int .u8, Kd.int .i64, Kd.lst [Kd.int .u8], Kd.int .i64], Pk.bool]
def Zbth  (K : (UInt8 × Int × List UInt8 × Int) -> Bool -> Prop) : Prop :=
 K ((ofI .u8 0), 0, ([] : List UInt8), 0) false
def Zbsm  (K : (UInt8 × Int × List UInt8 × Int) -> Bool -> Prop) : Prop :=
 Zbth K
def Zzn (b0 : List UInt8) (j5 : Int) (j6 : Int) (K : (UInt8 × Int × List UInt8 × Int) -> Bool -> Prop) : Prop :=
 IfB (decide ((j6 : Int) <= (IntKind.wrap .i64 ((b0.length : Int) - j5))))
 ((0 : Int) <= 0 ∧ AtN b0 0 fun x37 =>
 WfT Zdw x37 ->
 (0 : Int) <= 1 ∧ AtN b0 1 fun x41 =>
 WfT Zdw x41 ->
 (0 : Int) <= (IntKind.wrap .i64 (j5 + j6)) ∧ (IntKind.wrap .i64 (j5 + j6)) <= (b0.length : Int) ∧
 (0 : Int) <= j5 ∧ j5 <= ((IntKind.wrap .i64 (j5 + j6)).toNat : Int) ∧
 K ((ofI .u8 (Zfb .u8 (x37.toNat : Int) 192)), (IntKind.wrap .i64 (x41.toNat : Int)), ((b0.take ((IntKind.wrap .i64 (j5 + j6)).toNat)).drop j5.toNat), (IntKind.wrap .i64 (j5 + j6))) true)
 (Zbth K)
def Zbft (b0 : List UInt8) (K : (UInt8 × Int × List UInt8 × Int) -> Bool -> Prop) : Prop :=
 IfB (decide (((b0.length : Int) : Int) < 3))
 (Zbsm K)
 ((0 : Int) <= 2 ∧ AtN b0 2 fun x11 =>
 WfT Zdw x11 ->
 (0 : Int) <= 0 ∧ AtN b0 0 fun x15 =>
 WfT Zdw x15 ->
 IfB (((Zfb .u8 (x15.toNat : Int) 16) : Int) != 0)
 (IfB (decide (((b0.length : Int) : Int) < 4))
 (Zbsm K)
 ((0 : Int) <= 8 ∧
 (0 : Int) <= 3 ∧ AtN b0 3 fun x26 =>
 WfT Zdw x26 ->
 Zzn b0 4 (Zeo .i64 (IntKind.wrap .i64 ((IntKind.wrap .i64 (x11.toNat : Int)) * 256)) (IntKind.wrap .i64 (x26.toNat : Int))) K))
 (Zzn b0 3 (IntKind.wrap .i64 (x11.toNat : Int)) K))
noncomputable def Zcks : Tab := ⟨[], []⟩
abbrev Zcqw (x : PkTs Zbrr) (K : PkTs Zbto -> Prop) : Prop := Zbft x.1 (fun r0 r1 => K (r0, r1, ()))
theorem Zcuj : FnQ Tryz.prog Zyn Zbrr Zbto Zcqw := (Zq Zcun (tab := Zcks) ⟨trivial, trivial⟩ rfl).of_eq (by kernel_rfl)
theorem Zcdg : Known Tryz.prog Zgg Tryz.f98 Zcy.plan (Zg Tryz.f98) := by refine ⟨Tryz.func98, ?_, ?_, ?_, ?_, ?_⟩ <;> kernel_rfl
abbrev Zbtt : List Pk := [Pk.lst [Kd.int .u8]]
abbrev Zbkz : List Pk := [Pk.int .u32]
def Zbbx (b0 : List UInt8) (K : Int -> Prop) : Prop :=
 (0 : Int) <= 0 ∧ AtN b0 0 fun x4 =>
 WfT Zdw x4 ->
 (0 : Int) <= 24 ∧
 (0 : Int) <= 1 ∧ AtN b0 1 fun x9 =>
 WfT Zdw x9 ->
 (0 : Int) <= 16 ∧
 (0 : Int) <= 2 ∧ AtN b0 2 fun x15 =>
 WfT Zdw x15 ->
 (0 : Int) <= 8 ∧
 (0 : Int) <= 3 ∧ AtN b0 3 fun x21 =>
 WfT Zdw x21 ->
 K (Zeo .u32 (Zeo .u32 (Zeo .u32 (IntKind.wrap .u32 ((IntKind.wrap .u32 (x4.toNat : Int)) * 16777216)) (IntKind.wrap .u32 ((IntKind.wrap .u32 (x9.toNat : Int)) * 65536))) (IntKind.wrap .u32 ((IntKind.wrap .u32 (x15.toNat : Int)) * 256))) (IntKind.wrap .u32 (x21.toNat : Int)))
noncomputable def Zcto : Tab := ⟨[], []⟩
abbrev Zcnx (x : PkTs Zbtt) (K : PkTs Zbkz -> Prop) : Prop := Zbbx x.1 (fun r0 => K (r0, ()))
theorem Zcjp : FnQ Tryz.prog Zgg Zbtt Zbkz Zcnx := (Zq Zcdg (tab := Zcto) ⟨trivial, trivial⟩ rfl).of_eq (by kernel_rfl)
theorem Zcbt : Known Tryz.prog Zpd Tryz.f60 Zcy.plan (Zg Tryz.f60) := by refine ⟨Tryz.func60, ?_, ?_, ?_, ?_, ?_⟩ <;> kernel_rfl
abbrev Zbsd : List Pk := [Pk.lst [Kd.int .u8]]
abbrev Zbwa : List Pk := [Pk.lst [Kd.int .u8]]
def Zbut (s0 : List UInt8) (K : List UInt8 -> Prop) : Prop :=
 ∀ isnil : Bool, (isnil = true -> s0.length = 0) ->
 IfB isnil
 (K ([] : List UInt8))
 (([] : List UInt8).length + s0.length <= 140737488355232 ∧
 K (([] : List UInt8) ++ s0))
noncomputable def Zctl : Tab := ⟨[], []⟩
abbrev Zcbx (x : PkTs Zbsd) (K : PkTs Zbwa -> Prop) : Prop := Zbut x.1 (fun r0 => K (r0, ()))
theorem Zbzj : FnQ Tryz.prog Zpd Zbsd Zbwa Zcbx := (Zq Zcbt (tab := Zctl) ⟨trivial, trivial⟩ rfl).of_eq (by kernel_rfl)
end Go.Proofs.YtboagabgpcghcaaGreatDoor
