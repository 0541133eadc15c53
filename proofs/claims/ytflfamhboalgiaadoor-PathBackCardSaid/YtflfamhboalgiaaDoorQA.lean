/-
  SOME FUNCTIONS OVER PLAIN DATA: printed by a program of ours over this translation.
-/
import Derived.Test.YtflfamhboalgiaaDoorBA
set_option linter.all false
set_option maxRecDepth 100000
set_option maxHeartbeats 4000000
namespace Go.Proofs.YtflfamhboalgiaaDoor
open Go.Sh
abbrev Zy : List Kd := [Kd.bool, Kd.lst [Kd.int .u32]]
abbrev Zhi : List Kd := [Kd.int .u32]
abbrev Zfk : List Kd := [Kd.int .u8]
abbrev Zbub : List Kd := [Kd.lst [Kd.int .u32]]
def Zbpp : PPlan := ⟨[], [], [], [], [], []⟩
theorem Zcgk : Known Tryd.prog Zuv Tryd.f38 Zbpp.plan (Zd Tryd.f38) := by refine ⟨Tryd.func38, ?_, ?_, ?_, ?_, ?_⟩ <;> kernel_rfl
abbrev Zbfb : List Pk := [Pk.str]
abbrev Zzf : List Pk := [Pk.int .u32]
def Zob (x7r0 : Int) (j1 : Bool) (K : Int -> Prop) : Prop :=
 IfB j1
 (K 0)
 (K (IntKind.wrap .u32 x7r0))
def Zzs (s0 : List UInt8) (K : Int -> Prop) : Prop :=
 (WfPs Zuf (s0, (10 : Int), (64 : Int), ()) ->
 Zzk s0 (10 : Int) (64 : Int) (fun x7r0 x7r1 =>
 WfPs Zur (x7r0, x7r1, ()) ->
 IfB (!x7r1)
 (Zob x7r0 true K)
 (IfB (decide ((x7r0 : Int) > 4294967295))
 (Zob x7r0 true K)
 ((WfPs Zul (x7r0, (10 : Int), ()) ->
 Zty x7r0 (10 : Int) (fun x18 =>
 WfPs Zyf (x18, ()) ->
 Zob x7r0 (!(x18 == s0)) K))))))
noncomputable def Zbtm : Tab := ⟨[(Zkc, Zbfa), (Zbbn, Zbrz)], []⟩
abbrev Zbkp (x : PkTs Zbfb) (K : PkTs Zzf -> Prop) : Prop := Zzs x.1 (fun r0 => K (r0, ()))
theorem Zcal : Zbkp = fun x K => Zk Tryd.prog Zbtm Zbpp (Zd Tryd.f38) (parS Zbfb x) (PRet Tryd.prog Tryd.f38.results.toList fun a st => outP Zzf st a K) := by kernel_rfl
theorem Zcpp : FnQ Tryd.prog Zuv Zbfb Zzf Zbkp := (Zbd Zcgk (tab := Zbtm) ⟨⟨Zbxf, Zcjs, trivial⟩, trivial⟩ rfl).of_eq Zcal
def Zbwv : PLoop := ⟨[(3, PK.int .i64), (8, PK.int .i64)], [6, 7], []⟩
def Zbzv : PPlan := ⟨[], [(3, Zbwv)], [], [], [], []⟩
theorem Zclg : Known Tryd.prog Zna Tryd.f41 Zbzv.plan (Zd Tryd.f41) := by refine ⟨Tryd.func41, ?_, ?_, ?_, ?_, ?_⟩ <;> kernel_rfl
abbrev Zqf : List Pk := [Pk.lst [Kd.bool, Kd.lst [Kd.int .u32]]]
abbrev Zrl : List Pk := [Pk.int .i64]
def Zbdx (p0 : List (Bool × List UInt32)) (n3 : Int) (x8 : Int) (next3 : (Int × Int × Unit) -> Prop) (K : Int -> Prop) : Prop :=
 IfB (decide ((x8 : Int) < (p0.length : Int)))
 ((0 : Int) <= x8 ∧ AtN p0 x8.toNat fun x10 =>
 WfT Zy x10 ->
 next3 ((IntKind.wrap .i64 (n3 + (x10.2.length : Int))), (IntKind.wrap .i64 (x8 + 1)), ()))
 (K n3)
def Zyh (p0 : List (Bool × List UInt32)) (K : Int -> Prop) : Prop :=
 Zj (Int × Int × Unit) ((0 : Int), (0 : Int), ()) fun y next =>
 WfY Zbwv.kinds y ->
 Zbdx p0 y.1 y.2.1 next K
noncomputable def Zbwc : Tab := ⟨[], []⟩
abbrev Zbam (x : PkTs Zqf) (K : PkTs Zrl -> Prop) : Prop := Zyh x.1 (fun r0 => K (r0, ()))
theorem Zcun : Zbam = fun x K => Zk Tryd.prog Zbwc Zbzv (Zd Tryd.f41) (parS Zqf x) (PRet Tryd.prog Tryd.f41.results.toList fun a st => outP Zrl st a K) := by kernel_rfl
theorem Zbvs : FnQ Tryd.prog Zna Zqf Zrl Zbam := (Zbd Zclg (tab := Zbwc) ⟨trivial, trivial⟩ rfl).of_eq Zcun
noncomputable def Zbvk : Ct := ctRd Zqf Zrl Zbam
theorem Zcec : Zz Tryd.prog Zna Zbvk := Zcv Zbvs
def Zbxz : PLoop := ⟨[(8, PK.int .i64)], [0, 1, 7], []⟩
def Zbob : PPlan := ⟨[], [(2, Zbxz)], [], [], [], []⟩
theorem Zcvi : Known Tryd.prog Zuj Tryd.f70 Zbob.plan (Zd Tryd.f70) := by refine ⟨Tryd.func70, ?_, ?_, ?_, ?_, ?_⟩ <;> kernel_rfl
abbrev Zrb : List Pk := [Pk.lst [Kd.int .u32], Pk.int .u32]
abbrev Zta : List Pk := [Pk.int .i64]
def Zbgd (s0 : List UInt32) (v1 : Int) (x8 : Int) (next2 : (Int × Unit) -> Prop) (K : Int -> Prop) : Prop :=
 IfB (decide ((x8 : Int) < (s0.length : Int)))
 ((0 : Int) <= x8 ∧ AtN s0 x8.toNat fun x14 =>
 WfT Zhi x14 ->
 IfB ((v1 : Int) == (x14.toNat : Int))
 (K x8)
 (next2 ((IntKind.wrap .i64 (x8 + 1)), ())))
 (K (-1))
def Zua (s0 : List UInt32) (v1 : Int) (K : Int -> Prop) : Prop :=
 Zj (Int × Unit) ((0 : Int), ()) fun y next =>
 WfY Zbxz.kinds y ->
 Zbgd s0 v1 y.1 next K
noncomputable def Zbui : Tab := ⟨[], []⟩
abbrev Zbad (x : PkTs Zrb) (K : PkTs Zta -> Prop) : Prop := Zua x.1 x.2.1 (fun r0 => K (r0, ()))
theorem Zcfq : Zbad = fun x K => Zk Tryd.prog Zbui Zbob (Zd Tryd.f70) (parS Zrb x) (PRet Tryd.prog Tryd.f70.results.toList fun a st => outP Zta st a K) := by kernel_rfl
theorem Zcci : FnQ Tryd.prog Zuj Zrb Zta Zbad := (Zbd Zcvi (tab := Zbui) ⟨trivial, trivial⟩ rfl).of_eq Zcfq
noncomputable def Zbpr : Ct := ctRd Zrb Zta Zbad
theorem Zcma : Zz Tryd.prog Zuj Zbpr := Zcv Zcci
def Zbzh : PPlan := ⟨[], [], [], [], [], []⟩
theorem Zcob : Known Tryd.prog Zlz Tryd.f54 Zbzh.plan (Zd Tryd.f54) := by refine ⟨Tryd.func54, ?_, ?_, ?_, ?_, ?_⟩ <;> kernel_rfl
abbrev Znn : List Pk := [Pk.lst [Kd.int .u32], Pk.int .u32]
abbrev Zpd : List Pk := [Pk.bool]
def Zwz (s0 : List UInt32) (v1 : Int) (K : Bool -> Prop) : Prop :=
 (WfPs Zrb (s0, v1, ()) ->
 Zua s0 v1 (fun x7 =>
 WfPs Zta (x7, ()) ->
 K (decide ((x7 : Int) ≥ 0))))
noncomputable def Zbkv : Tab := ⟨[(Zuj, Zbpr)], []⟩
abbrev Zban (x : PkTs Znn) (K : PkTs Zpd -> Prop) : Prop := Zwz x.1 x.2.1 (fun r0 => K (r0, ()))
theorem Zcps : Zban = fun x K => Zk Tryd.prog Zbkv Zbzh (Zd Tryd.f54) (parS Znn x) (PRet Tryd.prog Tryd.f54.results.toList fun a st => outP Zpd st a K) := by kernel_rfl
theorem Zbyy : FnQ Tryd.prog Zlz Znn Zpd Zban := (Zbd Zcob (tab := Zbkv) ⟨⟨Zcma, trivial⟩, trivial⟩ rfl).of_eq Zcps
noncomputable def Zbxm : Ct := ctRd Znn Zpd Zban
theorem Zcsd : Zz Tryd.prog Zlz Zbxm := Zcv Zbyy
def Zbxl : PPlan := ⟨[], [], [], [], [], []⟩
theorem Zcae : Known Tryd.prog Zyj Tryd.f51 Zbxl.plan (Zd Tryd.f51) := by refine ⟨Tryd.func51, ?_, ?_, ?_, ?_, ?_⟩ <;> kernel_rfl
abbrev Zsg : List Pk := [Pk.agg [Kd.bool, Kd.lst [Kd.int .u32]]]
abbrev Zon : List Pk := [Pk.bool]
def Ztz (s0 : Bool × List UInt32) (K : Bool -> Prop) : Prop :=
 IfB (decide (((s0.2.length : Int) : Int) > 0))
 (IfB (decide (((s0.2.length : Int) : Int) <= 255))
 ((WfPs Znn (s0.2, (0 : Int), ()) ->
 Zwz s0.2 (0 : Int) (fun x16 =>
 WfPs Zpd (x16, ()) ->
 K (!x16))))
 (K false))
 (K false)
noncomputable def Zbxs : Tab := ⟨[(Zlz, Zbxm)], []⟩
abbrev Zbak (x : PkTs Zsg) (K : PkTs Zon -> Prop) : Prop := Ztz x.1 (fun r0 => K (r0, ()))
theorem Zcjf : Zbak = fun x K => Zk Tryd.prog Zbxs Zbxl (Zd Tryd.f51) (parS Zsg x) (PRet Tryd.prog Tryd.f51.results.toList fun a st => outP Zon st a K) := by kernel_rfl
theorem Zcsf : FnQ Tryd.prog Zyj Zsg Zon Zbak := (Zbd Zcae (tab := Zbxs) ⟨⟨Zcsd, trivial⟩, trivial⟩ rfl).of_eq Zcjf
noncomputable def Zbnx : Ct := ctRd Zsg Zon Zbak
theorem Zceg : Zz Tryd.prog Zyj Zbnx := Zcv Zcsf
def Zbpm : PLoop := ⟨[(7, PK.int .i64)], [0, 5, 6], []⟩
def Zbly : PPlan := ⟨[], [(2, Zbpm)], [], [], [], []⟩
theorem Zcks : Known Tryd.prog Zgv Tryd.f24 Zbly.plan (Zd Tryd.f24) := by refine ⟨Tryd.func24, ?_, ?_, ?_, ?_, ?_⟩ <;> kernel_rfl
abbrev Zib : List Pk := [Pk.lst [Kd.bool, Kd.lst [Kd.int .u32]]]
abbrev Zig : List Pk := [Pk.int .i64]
def Zbau (p0 : List (Bool × List UInt32)) (x7 : Int) (next2 : (Int × Unit) -> Prop) (K : Int -> Prop) : Prop :=
 IfB (decide ((x7 : Int) < (p0.length : Int)))
 ((0 : Int) <= x7 ∧ AtN p0 x7.toNat fun x9 =>
 WfT Zy x9 ->
 (WfPs Zsg (x9, ()) ->
 Ztz x9 (fun x12 =>
 WfPs Zon (x12, ()) ->
 IfB (!x12)
 (K 2)
 (next2 ((IntKind.wrap .i64 (x7 + 1)), ())))))
 ((WfPs Zqf (p0, ()) ->
 Zyh p0 (fun x16 =>
 WfPs Zrl (x16, ()) ->
 IfB (decide ((x16 : Int) > 64))
 (K 2)
 (K 0))))
def Zjc (p0 : List (Bool × List UInt32)) (K : Int -> Prop) : Prop :=
 Zj (Int × Unit) ((0 : Int), ()) fun y next =>
 WfY Zbpm.kinds y ->
 Zbau p0 y.1 next K
noncomputable def Zbsa : Tab := ⟨[(Zna, Zbvk), (Zyj, Zbnx)], []⟩
abbrev Zbfm (x : PkTs Zib) (K : PkTs Zig -> Prop) : Prop := Zjc x.1 (fun r0 => K (r0, ()))
theorem Zcjr : Zbfm = fun x K => Zk Tryd.prog Zbsa Zbly (Zd Tryd.f24) (parS Zib x) (PRet Tryd.prog Tryd.f24.results.toList fun a st => outP Zig st a K) := by kernel_rfl
theorem Zbmv : FnQ Tryd.prog Zgv Zib Zig Zbfm := (Zbd Zcks (tab := Zbsa) ⟨⟨Zcec, Zceg, trivial⟩, trivial⟩ rfl).of_eq Zcjr
noncomputable def Zof : Ct := ctRd Zib Zig Zbfm
theorem Zsx : Zz Tryd.prog Zgv Zof := Zcv Zbmv
def Zbul : PLoop := ⟨[(3, PK.int .i64), (4, PK.int .i64)], [0], []⟩
def Zbzd : PLoop := ⟨[(5, PK.int .i64)], [0, 3, 4], []⟩
def Zbzn : PPlan := ⟨[], [(3, Zbul), (8, Zbzd)], [], [], [], []⟩
theorem Zcki : Known Tryd.prog Zht Tryd.f25 Zbzn.plan (Zd Tryd.f25) := by refine ⟨Tryd.func25, ?_, ?_, ?_, ?_, ?_⟩ <;> kernel_rfl
abbrev Zin : List Pk := [Pk.lst [Kd.bool, Kd.lst [Kd.int .u32]]]
abbrev Zhu : List Pk := [Pk.int .i64]
def Zbid (p0 : List (Bool × List UInt32)) (n3 : Int) (i4 : Int) (next3 : (Int × Int × Unit) -> Prop) (k5 : Int) (next8 : (Int × Unit) -> Prop) (K : Int -> Prop) : Prop :=
 (0 : Int) <= i4 ∧ AtN p0 i4.toNat fun x31 =>
 WfT Zy x31 ->
 IfB (decide ((k5 : Int) < (x31.2.length : Int)))
 ((0 : Int) <= i4 ∧ AtN p0 i4.toNat fun x40 =>
 WfT Zy x40 ->
 (0 : Int) <= k5 ∧ AtN x40.2 k5.toNat fun x44 =>
 WfT Zhi x44 ->
 IfB (((x44.toNat : Int) : Int) == 0)
 (K 2)
 (next8 ((IntKind.wrap .i64 (k5 + 1)), ())))
 ((0 : Int) <= i4 ∧ AtN p0 i4.toNat fun x50 =>
 WfT Zy x50 ->
 IfB (decide (((IntKind.wrap .i64 (n3 + (x50.2.length : Int))) : Int) > 64))
 (K 2)
 (next3 ((IntKind.wrap .i64 (n3 + (x50.2.length : Int))), (IntKind.wrap .i64 (i4 + 1)), ())))
def Zbkb (p0 : List (Bool × List UInt32)) (n3 : Int) (i4 : Int) (next3 : (Int × Int × Unit) -> Prop) (j3 : Bool) (K : Int -> Prop) : Prop :=
 IfB j3
 (K 2)
 (Zj (Int × Unit) ((0 : Int), ()) fun y next =>
 WfY Zbzd.kinds y ->
 Zbid p0 n3 i4 next3 y.1 next K)
def Zzb (p0 : List (Bool × List UInt32)) (n3 : Int) (i4 : Int) (next3 : (Int × Int × Unit) -> Prop) (K : Int -> Prop) : Prop :=
 IfB (decide ((i4 : Int) < (p0.length : Int)))
 ((0 : Int) <= i4 ∧ AtN p0 i4.toNat fun x14 =>
 WfT Zy x14 ->
 IfB (((x14.2.length : Int) : Int) == 0)
 (Zbkb p0 n3 i4 next3 true K)
 ((0 : Int) <= i4 ∧ AtN p0 i4.toNat fun x22 =>
 WfT Zy x22 ->
 Zbkb p0 n3 i4 next3 (decide (((x22.2.length : Int) : Int) > 255)) K))
 (K 0)
def Zjv (p0 : List (Bool × List UInt32)) (K : Int -> Prop) : Prop :=
 Zj (Int × Int × Unit) ((0 : Int), (0 : Int), ()) fun y next =>
 WfY Zbul.kinds y ->
 Zzb p0 y.1 y.2.1 next K
noncomputable def Zbmr : Tab := ⟨[], []⟩
abbrev Zbap (x : PkTs Zin) (K : PkTs Zhu -> Prop) : Prop := Zjv x.1 (fun r0 => K (r0, ()))
theorem Zcdo : Zbap = fun x K => Zk Tryd.prog Zbmr Zbzn (Zd Tryd.f25) (parS Zin x) (PRet Tryd.prog Tryd.f25.results.toList fun a st => outP Zhu st a K) := by kernel_rfl
theorem Zbwt : FnQ Tryd.prog Zht Zin Zhu Zbap := (Zbd Zcki (tab := Zbmr) ⟨trivial, trivial⟩ rfl).of_eq Zcdo
noncomputable def Zlx : Ct := ctRd Zin Zhu Zbap
theorem Ztd : Zz Tryd.prog Zht Zlx := Zcv Zbwt
def Zbrn : PLoop := ⟨[(3, PK.int .i64), (4, PK.int .i64)], [0], []⟩
def Zbsg : PPlan := ⟨[], [(3, Zbrn)], [], [], [], []⟩
theorem Zcpu : Known Tryd.prog Zsd Tryd.f48 Zbsg.plan (Zd Tryd.f48) := by refine ⟨Tryd.func48, ?_, ?_, ?_, ?_, ?_⟩ <;> kernel_rfl
abbrev Zbcd : List Pk := [Pk.lst [Kd.bool, Kd.lst [Kd.int .u32]]]
abbrev Zbev : List Pk := [Pk.int .i64]
def Zbim (p0 : List (Bool × List UInt32)) (i4 : Int) (next3 : (Int × Int × Unit) -> Prop) (j1 : Int) (K : Int -> Prop) : Prop :=
 next3 (j1, (IntKind.wrap .i64 (i4 + 1)), ())
def Zben (p0 : List (Bool × List UInt32)) (n3 : Int) (i4 : Int) (next3 : (Int × Int × Unit) -> Prop) (K : Int -> Prop) : Prop :=
 IfB (decide ((i4 : Int) < (p0.length : Int)))
 ((0 : Int) <= i4 ∧ AtN p0 i4.toNat fun x13 =>
 WfT Zy x13 ->
 IfB x13.1
 (Zbim p0 i4 next3 (IntKind.wrap .i64 (n3 + 1)) K)
 ((0 : Int) <= i4 ∧ AtN p0 i4.toNat fun x21 =>
 WfT Zy x21 ->
 Zbim p0 i4 next3 (IntKind.wrap .i64 (n3 + (x21.2.length : Int))) K))
 (K n3)
def Zbbx (p0 : List (Bool × List UInt32)) (K : Int -> Prop) : Prop :=
 Zj (Int × Int × Unit) ((0 : Int), (0 : Int), ()) fun y next =>
 WfY Zbrn.kinds y ->
 Zben p0 y.1 y.2.1 next K
noncomputable def Zbsx : Tab := ⟨[], []⟩
abbrev Zbqa (x : PkTs Zbcd) (K : PkTs Zbev -> Prop) : Prop := Zbbx x.1 (fun r0 => K (r0, ()))
theorem Zcou : Zbqa = fun x K => Zk Tryd.prog Zbsx Zbsg (Zd Tryd.f48) (parS Zbcd x) (PRet Tryd.prog Tryd.f48.results.toList fun a st => outP Zbev st a K) := by kernel_rfl
theorem Zclo : FnQ Tryd.prog Zsd Zbcd Zbev Zbqa := (Zbd Zcpu (tab := Zbsx) ⟨trivial, trivial⟩ rfl).of_eq Zcou
def Zbyn : PLoop := ⟨[(5, PK.row Zjq [Kd.str]), (6, PK.int .i64), (7, PK.int .i64)], [0, 1], []⟩
def Zbvu : PPlan := ⟨[], [(4, Zbyn)], [], [], [], []⟩
theorem Zcgy : Known Tryd.prog Zwc Tryd.f39 Zbvu.plan (Zd Tryd.f39) := by refine ⟨Tryd.func39, ?_, ?_, ?_, ?_, ?_⟩ <;> kernel_rfl
abbrev Zyc : List Pk := [Pk.str, Pk.int .u8]
abbrev Zbcw : List Pk := [Pk.lst [Kd.str]]
def Zxg (s0 : List UInt8) (c1 : Int) (i7 : Int) (next4 : (List (List UInt8) × Int × Int × Unit) -> Prop) (j2 : List (List UInt8)) (j3 : Int) (K : List (List UInt8) -> Prop) : Prop :=
 next4 (j2, j3, (IntKind.wrap .i64 (i7 + 1)), ())
def Zbeg (s0 : List UInt8) (c1 : Int) (out5 : List (List UInt8)) (from6 : Int) (i7 : Int) (next4 : (List (List UInt8) × Int × Int × Unit) -> Prop) (K : List (List UInt8) -> Prop) : Prop :=
 IfB (decide ((i7 : Int) < (s0.length : Int)))
 ((0 : Int) <= i7 ∧ AtN s0 i7.toNat fun x17 =>
 IfB (((x17.toNat : Int) : Int) == c1)
 ((0 : Int) <= i7 ∧ i7 <= (s0.length : Int) ∧
 (0 : Int) <= from6 ∧ from6 <= (i7.toNat : Int) ∧
 out5.length + ([((s0.take i7.toNat).drop from6.toNat)] : List (List UInt8)).length <= 8796093022112 ∧
 Zxg s0 c1 i7 next4 (out5 ++ ([((s0.take i7.toNat).drop from6.toNat)] : List (List UInt8))) (IntKind.wrap .i64 (i7 + 1)) K)
 (Zxg s0 c1 i7 next4 out5 from6 K))
 ((0 : Int) <= from6 ∧ from6 <= (s0.length : Int) ∧
 out5.length + ([(s0.drop from6.toNat)] : List (List UInt8)).length <= 8796093022112 ∧
 K (out5 ++ ([(s0.drop from6.toNat)] : List (List UInt8))))
def Zbfd (s0 : List UInt8) (c1 : Int) (K : List (List UInt8) -> Prop) : Prop :=
 Zj (List (List UInt8) × Int × Int × Unit) (([] : List (List UInt8)), (0 : Int), (0 : Int), ()) fun y next =>
 WfY Zbyn.kinds y ->
 Zbeg s0 c1 y.1 y.2.1 y.2.2.1 next K
noncomputable def Zbtd : Tab := ⟨[], []⟩
abbrev Zbqm (x : PkTs Zyc) (K : PkTs Zbcw -> Prop) : Prop := Zbfd x.1 x.2.1 (fun r0 => K (r0, ()))
theorem Zcey : Zbqm = fun x K => Zk Tryd.prog Zbtd Zbvu (Zd Tryd.f39) (parS Zyc x) (PRet Tryd.prog Tryd.f39.results.toList fun a st => outP Zbcw st a K) := by kernel_rfl
theorem Zcsy : FnQ Tryd.prog Zwc Zyc Zbcw Zbqm := (Zbd Zcgy (tab := Zbtd) ⟨trivial, trivial⟩ rfl).of_eq Zcey
def Zbsw : PLoop := ⟨[(6, PK.int .i64), (7, PK.int .i64)], [0], []⟩
def Zbvl : PPlan := ⟨[], [(5, Zbsw)], [], [], [], []⟩
theorem Zcny : Known Tryd.prog Zuw Tryd.f40 Zbvl.plan (Zd Tryd.f40) := by refine ⟨Tryd.func40, ?_, ?_, ?_, ?_, ?_⟩ <;> kernel_rfl
abbrev Zuc : List Pk := [Pk.str, Pk.int .i64]
abbrev Zbiv : List Pk := [Pk.int .i64, Pk.bool]
def Zwt (s0 : List UInt8) (n6 : Int) (i7 : Int) (next5 : (Int × Int × Unit) -> Prop) (j3 : Bool) (K : Int -> Bool -> Prop) : Prop :=
 IfB j3
 (K 0 false)
 ((0 : Int) <= i7 ∧ AtN s0 i7.toNat fun x46 =>
 next5 ((IntKind.wrap .i64 ((IntKind.wrap .i64 (10 * n6)) + (IntKind.wrap .i64 (IntKind.wrap .u8 ((x46.toNat : Int) - 48))))), (IntKind.wrap .i64 (i7 + 1)), ()))
def Zbaf (s0 : List UInt8) (n6 : Int) (i7 : Int) (next5 : (Int × Int × Unit) -> Prop) (K : Int -> Bool -> Prop) : Prop :=
 IfB (decide ((i7 : Int) < (s0.length : Int)))
 ((0 : Int) <= i7 ∧ AtN s0 i7.toNat fun x34 =>
 IfB (decide (((x34.toNat : Int) : Int) < 48))
 (Zwt s0 n6 i7 next5 true K)
 ((0 : Int) <= i7 ∧ AtN s0 i7.toNat fun x39 =>
 Zwt s0 n6 i7 next5 (decide (((x39.toNat : Int) : Int) > 57)) K))
 (K n6 true)
def Zmg (s0 : List UInt8) (j1 : Bool) (K : Int -> Bool -> Prop) : Prop :=
 IfB j1
 (K 0 false)
 (Zj (Int × Int × Unit) ((0 : Int), (0 : Int), ()) fun y next =>
 WfY Zbsw.kinds y ->
 Zbaf s0 y.1 y.2.1 next K)
def Zbbb (s0 : List UInt8) (most1 : Int) (K : Int -> Bool -> Prop) : Prop :=
 IfB (s0 == ([] : List UInt8))
 (Zmg s0 true K)
 (IfB (decide (((s0.length : Int) : Int) > most1))
 (Zmg s0 true K)
 (IfB (decide (((s0.length : Int) : Int) > 1))
 ((0 : Int) <= 0 ∧ AtN s0 0 fun x22 =>
 Zmg s0 (((x22.toNat : Int) : Int) == 48) K)
 (Zmg s0 false K)))
noncomputable def Zbop : Tab := ⟨[], []⟩
abbrev Zboq (x : PkTs Zuc) (K : PkTs Zbiv -> Prop) : Prop := Zbbb x.1 x.2.1 (fun r0 r1 => K (r0, r1, ()))
theorem Zcox : Zboq = fun x K => Zk Tryd.prog Zbop Zbvl (Zd Tryd.f40) (parS Zuc x) (PRet Tryd.prog Tryd.f40.results.toList fun a st => outP Zbiv st a K) := by kernel_rfl
theorem Zclk : FnQ Tryd.prog Zuw Zuc Zbiv Zboq := (Zbd Zcny (tab := Zbop) ⟨trivial, trivial⟩ rfl).of_eq Zcox
def Zbvq : PPlan := ⟨[], [], [], [], [], []⟩
theorem Zcld : Known Tryd.prog Zwn Tryd.f80 Zbvq.plan (Zd Tryd.f80) := by refine ⟨Tryd.func80, ?_, ?_, ?_, ?_, ?_⟩ <;> kernel_rfl
abbrev Zqd : List Pk := [Pk.str, Pk.str]
abbrev Zpf : List Pk := [Pk.bool]
def Zbfu (s0 : List UInt8) (prefix1 : List UInt8) (K : Bool -> Prop) : Prop :=
 IfB (decide (((s0.length : Int) : Int) ≥ (prefix1.length : Int)))
 ((0 : Int) <= (prefix1.length : Int) ∧ (prefix1.length : Int) <= (s0.length : Int) ∧
 K ((s0.take (prefix1.length)) == prefix1))
 (K false)
noncomputable def Zbuz : Tab := ⟨[], []⟩
abbrev Zbal (x : PkTs Zqd) (K : PkTs Zpf -> Prop) : Prop := Zbfu x.1 x.2.1 (fun r0 => K (r0, ()))
theorem Zcrj : Zbal = fun x K => Zk Tryd.prog Zbuz Zbvq (Zd Tryd.f80) (parS Zqd x) (PRet Tryd.prog Tryd.f80.results.toList fun a st => outP Zpf st a K) := by kernel_rfl
theorem Zbzx : FnQ Tryd.prog Zwn Zqd Zpf Zbal := (Zbd Zcld (tab := Zbuz) ⟨trivial, trivial⟩ rfl).of_eq Zcrj
noncomputable def Zbyt : Ct := ctRd Zqd Zpf Zbal
theorem Zcnp : Zz Tryd.prog Zwn Zbyt := Zcv Zbzx
def Zbjp : PPlan := ⟨[], [], [], [], [], []⟩
theorem Zcdq : Known Tryd.prog Zxz Tryd.f60 Zbjp.plan (Zd Tryd.f60) := by refine ⟨Tryd.func60, ?_, ?_, ?_, ?_, ?_⟩ <;> kernel_rfl
abbrev Zrm : List Pk := [Pk.str, Pk.str]
abbrev Ztc : List Pk := [Pk.str, Pk.bool]
def Zzu (s0 : List UInt8) (prefix1 : List UInt8) (K : List UInt8 -> Bool -> Prop) : Prop :=
 (WfPs Zqd (s0, prefix1, ()) ->
 Zbfu s0 prefix1 (fun x8 =>
 WfPs Zpf (x8, ()) ->
 IfB (!x8)
 (K s0 false)
 ((0 : Int) <= (prefix1.length : Int) ∧ (prefix1.length : Int) <= (s0.length : Int) ∧
 K (s0.drop (prefix1.length)) true)))
noncomputable def Zbys : Tab := ⟨[(Zwn, Zbyt)], []⟩
abbrev Zbfc (x : PkTs Zrm) (K : PkTs Ztc -> Prop) : Prop := Zzu x.1 x.2.1 (fun r0 r1 => K (r0, r1, ()))
theorem Zcco : Zbfc = fun x K => Zk Tryd.prog Zbys Zbjp (Zd Tryd.f60) (parS Zrm x) (PRet Tryd.prog Tryd.f60.results.toList fun a st => outP Ztc st a K) := by kernel_rfl
theorem Zcch : FnQ Tryd.prog Zxz Zrm Ztc Zbfc := (Zbd Zcdq (tab := Zbys) ⟨⟨Zcnp, trivial⟩, trivial⟩ rfl).of_eq Zcco
noncomputable def Zbka : Ct := ctRd Zrm Ztc Zbfc
theorem Zcfy : Zz Tryd.prog Zxz Zbka := Zcv Zcch
def Zbym : PPlan := ⟨[], [], [], [], [], []⟩
theorem Zcil : Known Tryd.prog Zyy Tryd.f36 Zbym.plan (Zd Tryd.f36) := by refine ⟨Tryd.func36, ?_, ?_, ?_, ?_, ?_⟩ <;> kernel_rfl
abbrev Zbci : List Pk := [Pk.str, Pk.str]
abbrev Zbct : List Pk := [Pk.str, Pk.bool]
def Zbed (s0 : List UInt8) (prefix1 : List UInt8) (K : List UInt8 -> Bool -> Prop) : Prop :=
 (WfPs Zrm (s0, prefix1, ()) ->
 Zzu s0 prefix1 (fun x8r0 x8r1 =>
 WfPs Ztc (x8r0, x8r1, ()) ->
 K x8r0 x8r1))
noncomputable def Zbkq : Tab := ⟨[(Zxz, Zbka)], []⟩
abbrev Zbqh (x : PkTs Zbci) (K : PkTs Zbct -> Prop) : Prop := Zbed x.1 x.2.1 (fun r0 r1 => K (r0, r1, ()))
theorem Zchl : Zbqh = fun x K => Zk Tryd.prog Zbkq Zbym (Zd Tryd.f36) (parS Zbci x) (PRet Tryd.prog Tryd.f36.results.toList fun a st => outP Zbct st a K) := by kernel_rfl
theorem Zcck : FnQ Tryd.prog Zyy Zbci Zbct Zbqh := (Zbd Zcil (tab := Zbkq) ⟨⟨Zcfy, trivial⟩, trivial⟩ rfl).of_eq Zchl
def Zbxb : PPlan := ⟨[], [], [], [], [], []⟩
theorem Zcul : Known Tryd.prog Zyw Tryd.f81 Zbxb.plan (Zd Tryd.f81) := by refine ⟨Tryd.func81, ?_, ?_, ?_, ?_, ?_⟩ <;> kernel_rfl
abbrev Zpg : List Pk := [Pk.str, Pk.str]
abbrev Zot : List Pk := [Pk.bool]
def Zbif (s0 : List UInt8) (suffix1 : List UInt8) (K : Bool -> Prop) : Prop :=
 IfB (decide (((s0.length : Int) : Int) ≥ (suffix1.length : Int)))
 ((0 : Int) <= (IntKind.wrap .i64 ((s0.length : Int) - (suffix1.length : Int))) ∧ (IntKind.wrap .i64 ((s0.length : Int) - (suffix1.length : Int))) <= (s0.length : Int) ∧
 K ((s0.drop ((IntKind.wrap .i64 ((s0.length : Int) - (suffix1.length : Int))).toNat)) == suffix1))
 (K false)
noncomputable def Zbof : Tab := ⟨[], []⟩
abbrev Zbcb (x : PkTs Zpg) (K : PkTs Zot -> Prop) : Prop := Zbif x.1 x.2.1 (fun r0 => K (r0, ()))
theorem Zcon : Zbcb = fun x K => Zk Tryd.prog Zbof Zbxb (Zd Tryd.f81) (parS Zpg x) (PRet Tryd.prog Tryd.f81.results.toList fun a st => outP Zot st a K) := by kernel_rfl
theorem Zcqu : FnQ Tryd.prog Zyw Zpg Zot Zbcb := (Zbd Zcul (tab := Zbof) ⟨trivial, trivial⟩ rfl).of_eq Zcon
noncomputable def Zbuh : Ct := ctRd Zpg Zot Zbcb
theorem Zccq : Zz Tryd.prog Zyw Zbuh := Zcv Zcqu
def Zbtu : PPlan := ⟨[], [], [], [], [], []⟩
theorem Zcii : Known Tryd.prog Zxr Tryd.f61 Zbtu.plan (Zd Tryd.f61) := by refine ⟨Tryd.func61, ?_, ?_, ?_, ?_, ?_⟩ <;> kernel_rfl
abbrev Zpx : List Pk := [Pk.str, Pk.str]
abbrev Zrz : List Pk := [Pk.str, Pk.bool]
def Zbcs (s0 : List UInt8) (suffix1 : List UInt8) (K : List UInt8 -> Bool -> Prop) : Prop :=
 (WfPs Zpg (s0, suffix1, ()) ->
 Zbif s0 suffix1 (fun x8 =>
 WfPs Zot (x8, ()) ->
 IfB (!x8)
 (K s0 false)
 ((0 : Int) <= (IntKind.wrap .i64 ((s0.length : Int) - (suffix1.length : Int))) ∧ (IntKind.wrap .i64 ((s0.length : Int) - (suffix1.length : Int))) <= (s0.length : Int) ∧
 K (s0.take ((IntKind.wrap .i64 ((s0.length : Int) - (suffix1.length : Int))).toNat)) true)))
noncomputable def Zbtt : Tab := ⟨[(Zyw, Zbuh)], []⟩
abbrev Zbbl (x : PkTs Zpx) (K : PkTs Zrz -> Prop) : Prop := Zbcs x.1 x.2.1 (fun r0 r1 => K (r0, r1, ()))
theorem Zcqz : Zbbl = fun x K => Zk Tryd.prog Zbtt Zbtu (Zd Tryd.f61) (parS Zpx x) (PRet Tryd.prog Tryd.f61.results.toList fun a st => outP Zrz st a K) := by kernel_rfl
theorem Zchp : FnQ Tryd.prog Zxr Zpx Zrz Zbbl := (Zbd Zcii (tab := Zbtt) ⟨⟨Zccq, trivial⟩, trivial⟩ rfl).of_eq Zcqz
noncomputable def Zbqe : Ct := ctRd Zpx Zrz Zbbl
theorem Zcbr : Zz Tryd.prog Zxr Zbqe := Zcv Zchp
def Zbup : PPlan := ⟨[], [], [], [], [], []⟩
theorem Zceu : Known Tryd.prog Ztq Tryd.f37 Zbup.plan (Zd Tryd.f37) := by refine ⟨Tryd.func37, ?_, ?_, ?_, ?_, ?_⟩ <;> kernel_rfl
abbrev Zzr : List Pk := [Pk.str, Pk.str]
abbrev Zbai : List Pk := [Pk.str, Pk.bool]
def Zbbm (s0 : List UInt8) (suffix1 : List UInt8) (K : List UInt8 -> Bool -> Prop) : Prop :=
 (WfPs Zpx (s0, suffix1, ()) ->
 Zbcs s0 suffix1 (fun x8r0 x8r1 =>
 WfPs Zrz (x8r0, x8r1, ()) ->
 K x8r0 x8r1))
noncomputable def Zbrh : Tab := ⟨[(Zxr, Zbqe)], []⟩
abbrev Zbvp (x : PkTs Zzr) (K : PkTs Zbai -> Prop) : Prop := Zbbm x.1 x.2.1 (fun r0 r1 => K (r0, r1, ()))
theorem Zceo : Zbvp = fun x K => Zk Tryd.prog Zbrh Zbup (Zd Tryd.f37) (parS Zzr x) (PRet Tryd.prog Tryd.f37.results.toList fun a st => outP Zbai st a K) := by kernel_rfl
theorem Zcmt : FnQ Tryd.prog Ztq Zzr Zbai Zbvp := (Zbd Zceu (tab := Zbrh) ⟨⟨Zcbr, trivial⟩, trivial⟩ rfl).of_eq Zceo
def Zbqx : PPlan := ⟨[], [], [], [], [], []⟩
theorem Zcuj : Known Tryd.prog Zwi Tryd.f49 Zbqx.plan (Zd Tryd.f49) := by refine ⟨Tryd.func49, ?_, ?_, ?_, ?_, ?_⟩ <;> kernel_rfl
abbrev Zqa : List Pk := [Pk.agg [Kd.bool, Kd.lst [Kd.int .u32]]]
abbrev Zrs : List Pk := [Pk.int .u8]
def Zyv (s0 : Bool × List UInt32) (K : Int -> Prop) : Prop :=
 IfB s0.1
 (K 1)
 (K 2)
noncomputable def Zbtw : Tab := ⟨[], []⟩
abbrev Zbgk (x : PkTs Zqa) (K : PkTs Zrs -> Prop) : Prop := Zyv x.1 (fun r0 => K (r0, ()))
theorem Zcup : Zbgk = fun x K => Zk Tryd.prog Zbtw Zbqx (Zd Tryd.f49) (parS Zqa x) (PRet Tryd.prog Tryd.f49.results.toList fun a st => outP Zrs st a K) := by kernel_rfl
theorem Zcub : FnQ Tryd.prog Zwi Zqa Zrs Zbgk := (Zbd Zcuj (tab := Zbtw) ⟨trivial, trivial⟩ rfl).of_eq Zcup
noncomputable def Zbsm : Ct := ctRd Zqa Zrs Zbgk
theorem Zcmb : Zz Tryd.prog Zwi Zbsm := Zcv Zcub
def Zbmk : PLoop := ⟨[(7, PK.row Zja [Kd.int .u8]), (19, PK.int .i64)], [1, 17, 18], []⟩
def Zbni : PLoop := ⟨[(7, PK.row Zja [Kd.int .u8]), (35, PK.int .i64)], [1, 17, 18, 19, 33, 34], []⟩
def Zbwx : PPlan := ⟨[(8, [0, 1, 3, 4, 5, 6, 2, 7, 8, 9], [27])], [(6, Zbmk), (10, Zbni)], [], [], [], []⟩
theorem Zcsp : Known Tryd.prog Zth Tryd.f19 Zbwx.plan (Zd Tryd.f19) := by refine ⟨Tryd.func19, ?_, ?_, ?_, ?_, ?_⟩ <;> kernel_rfl
abbrev Zla : List Pk := [Pk.lst [Kd.bool, Kd.lst [Kd.int .u32]], Pk.bool]
abbrev Zle : List Pk := [Pk.own Zja [Kd.int .u8], Pk.int .i64]
def Zvz (four1 : Bool) (j1 : List UInt8) (j2 : Int) (p0 : List (Bool × List UInt32)) (x19 : Int) (x21 : Bool × List UInt32) (x35 : Int) (next6 : (List UInt8 × Int × Unit) -> Prop) (next10 : (List UInt8 × Int × Unit) -> Prop) (K : List UInt8 -> Int -> Prop) : Prop :=
 next10 ((j1 ++ ([(ofI .u8 (IntKind.wrap .u8 (Int.fdiv j2 256))), (ofI .u8 (IntKind.wrap .u8 j2))] : List UInt8)), (IntKind.wrap .i64 (x35 + 1)), ())
def Zbav (four1 : Bool) (p0 : List (Bool × List UInt32)) (x19 : Int) (x21 : Bool × List UInt32) (x35 : Int) (next6 : (List UInt8 × Int × Unit) -> Prop) (next10 : (List UInt8 × Int × Unit) -> Prop) (j1 : List UInt8) (j2 : Int) (K : List UInt8 -> Int -> Prop) : Prop :=
 (0 : Int) <= 8 ∧
 j1.length + ([(ofI .u8 (IntKind.wrap .u8 (Int.fdiv j2 256))), (ofI .u8 (IntKind.wrap .u8 j2))] : List UInt8).length <= 140737488355232 ∧
 Zvz four1 j1 j2 p0 x19 x21 x35 next6 next10 K
def Zbhs (four1 : Bool) (p0 : List (Bool × List UInt32)) (x19 : Int) (x21 : Bool × List UInt32) (next6 : (List UInt8 × Int × Unit) -> Prop) (b7_1 : List UInt8) (x35 : Int) (next10 : (List UInt8 × Int × Unit) -> Prop) (K : List UInt8 -> Int -> Prop) : Prop :=
 IfB (decide ((x35 : Int) < (x21.2.length : Int)))
 ((0 : Int) <= x35 ∧ AtN x21.2 x35.toNat fun x37 =>
 WfT Zhi x37 ->
 IfB four1
 ((0 : Int) <= 24 ∧
 (0 : Int) <= 16 ∧
 b7_1.length + ([(ofI .u8 (IntKind.wrap .u8 (Int.fdiv (x37.toNat : Int) 16777216))), (ofI .u8 (IntKind.wrap .u8 (Int.fdiv (x37.toNat : Int) 65536)))] : List UInt8).length <= 140737488355232 ∧
 Zbav four1 p0 x19 x21 x35 next6 next10 (b7_1 ++ ([(ofI .u8 (IntKind.wrap .u8 (Int.fdiv (x37.toNat : Int) 16777216))), (ofI .u8 (IntKind.wrap .u8 (Int.fdiv (x37.toNat : Int) 65536)))] : List UInt8)) (x37.toNat : Int) K)
 (IfB (decide (((x37.toNat : Int) : Int) > 65535))
 (Zbav four1 p0 x19 x21 x35 next6 next10 b7_1 23456 K)
 (Zbav four1 p0 x19 x21 x35 next6 next10 b7_1 (x37.toNat : Int) K)))
 (next6 (b7_1, (IntKind.wrap .i64 (x19 + 1)), ()))
def Zbaz (four1 : Bool) (p0 : List (Bool × List UInt32)) (b7 : List UInt8) (x19 : Int) (next6 : (List UInt8 × Int × Unit) -> Prop) (K : List UInt8 -> Int -> Prop) : Prop :=
 IfB (decide ((x19 : Int) < (p0.length : Int)))
 ((0 : Int) <= x19 ∧ AtN p0 x19.toNat fun x21 =>
 WfT Zy x21 ->
 (WfPs Zqa (x21, ()) ->
 Zyv x21 (fun x25 =>
 WfPs Zrs (x25, ()) ->
 b7.length + ([(ofI .u8 x25), (ofI .u8 (IntKind.wrap .u8 (x21.2.length : Int)))] : List UInt8).length <= 140737488355232 ∧
 Zj (List UInt8 × Int × Unit) ((b7 ++ ([(ofI .u8 x25), (ofI .u8 (IntKind.wrap .u8 (x21.2.length : Int)))] : List UInt8)), (0 : Int), ()) fun y next =>
 WfY Zbni.kinds y ->
 Zbhs four1 p0 x19 x21 next6 y.1 y.2.1 next K)))
 (K b7 0)
def Znw (p0 : List (Bool × List UInt32)) (four1 : Bool) (K : List UInt8 -> Int -> Prop) : Prop :=
 (WfPs Zib (p0, ()) ->
 Zjc p0 (fun x13 =>
 WfPs Zig (x13, ()) ->
 IfB ((x13 : Int) != 0)
 (K ([] : List UInt8) x13)
 (Zj (List UInt8 × Int × Unit) (([] : List UInt8), (0 : Int), ()) fun y next =>
 WfY Zbmk.kinds y ->
 Zbaz four1 p0 y.1 y.2.1 next K)))
noncomputable def Zbyi : Tab := ⟨[(Zgv, Zof), (Zwi, Zbsm)], []⟩
abbrev Zbip (x : PkTs Zla) (K : PkTs Zle -> Prop) : Prop := Znw x.1 x.2.1 (fun r0 r1 => K (r0, r1, ()))
theorem Zclp : Zbip = fun x K => Zk Tryd.prog Zbyi Zbwx (Zd Tryd.f19) (parS Zla x) (PRet Tryd.prog Tryd.f19.results.toList fun a st => outP Zle st a K) := by kernel_rfl
theorem Zcpf : FnQ Tryd.prog Zth Zla Zle Zbip := (Zbd Zcsp (tab := Zbyi) ⟨⟨Zsx, Zcmb, trivial⟩, trivial⟩ rfl).of_eq Zclp
noncomputable def Zbhv : Ct := Zcy Zla Zle Zbip
theorem Zbql : Zz Tryd.prog Zth Zbhv := Zdk Zcpf
def Zbku : PLoop := ⟨[(6, PK.row Zja [Kd.int .u8]), (7, PK.int .i64)], [0, 1], []⟩
def Zbtp : PLoop := ⟨[(6, PK.row Zja [Kd.int .u8]), (9, PK.int .i64)], [0, 1, 7], []⟩
def Zbut : PPlan := ⟨[], [(5, Zbku), (12, Zbtp)], [], [], [], []⟩
theorem Zclj : Known Tryd.prog Zvh Tryd.f20 Zbut.plan (Zd Tryd.f20) := by refine ⟨Tryd.func20, ?_, ?_, ?_, ?_, ?_⟩ <;> kernel_rfl
abbrev Zpq : List Pk := [Pk.lst [Kd.bool, Kd.lst [Kd.int .u32]], Pk.bool]
abbrev Zrj : List Pk := [Pk.own Zja [Kd.int .u8], Pk.int .i64]
def Zpn (p0 : List (Bool × List UInt32)) (four1 : Bool) (i7 : Int) (k9 : Int) (next5 : (List UInt8 × Int × Unit) -> Prop) (next12 : (List UInt8 × Int × Unit) -> Prop) (j2 : List UInt8) (K : List UInt8 -> Int -> Prop) : Prop :=
 next12 (j2, (IntKind.wrap .i64 (k9 + 1)), ())
def Zbvc (p0 : List (Bool × List UInt32)) (four1 : Bool) (b6_1 : List UInt8) (i7 : Int) (k9 : Int) (next5 : (List UInt8 × Int × Unit) -> Prop) (next12 : (List UInt8 × Int × Unit) -> Prop) (j5 : Int) (K : List UInt8 -> Int -> Prop) : Prop :=
 (256 : Int) ≠ 0 ∧
 (256 : Int) ≠ 0 ∧
 b6_1.length + ([(ofI .u8 (IntKind.wrap .u8 (IntKind.wrap .u32 (Int.tdiv j5 256)))), (ofI .u8 (IntKind.wrap .u8 (Int.tmod j5 256)))] : List UInt8).length <= 140737488355232 ∧
 Zpn p0 four1 i7 k9 next5 next12 (b6_1 ++ ([(ofI .u8 (IntKind.wrap .u8 (IntKind.wrap .u32 (Int.tdiv j5 256)))), (ofI .u8 (IntKind.wrap .u8 (Int.tmod j5 256)))] : List UInt8)) K
def Zbdp (p0 : List (Bool × List UInt32)) (four1 : Bool) (i7 : Int) (next5 : (List UInt8 × Int × Unit) -> Prop) (b6_1 : List UInt8) (k9 : Int) (next12 : (List UInt8 × Int × Unit) -> Prop) (K : List UInt8 -> Int -> Prop) : Prop :=
 (0 : Int) <= i7 ∧ AtN p0 i7.toNat fun x40 =>
 WfT Zy x40 ->
 IfB (decide ((k9 : Int) < (x40.2.length : Int)))
 ((0 : Int) <= i7 ∧ AtN p0 i7.toNat fun x49 =>
 WfT Zy x49 ->
 (0 : Int) <= k9 ∧ AtN x49.2 k9.toNat fun x53 =>
 WfT Zhi x53 ->
 IfB four1
 ((16777216 : Int) ≠ 0 ∧
 (65536 : Int) ≠ 0 ∧
 (256 : Int) ≠ 0 ∧
 (256 : Int) ≠ 0 ∧
 (256 : Int) ≠ 0 ∧
 (256 : Int) ≠ 0 ∧
 b6_1.length + ([(ofI .u8 (IntKind.wrap .u8 (IntKind.wrap .u32 (Int.tdiv (x53.toNat : Int) 16777216)))), (ofI .u8 (IntKind.wrap .u8 (Int.tmod (IntKind.wrap .u32 (Int.tdiv (x53.toNat : Int) 65536)) 256))), (ofI .u8 (IntKind.wrap .u8 (Int.tmod (IntKind.wrap .u32 (Int.tdiv (x53.toNat : Int) 256)) 256))), (ofI .u8 (IntKind.wrap .u8 (Int.tmod (x53.toNat : Int) 256)))] : List UInt8).length <= 140737488355232 ∧
 Zpn p0 four1 i7 k9 next5 next12 (b6_1 ++ ([(ofI .u8 (IntKind.wrap .u8 (IntKind.wrap .u32 (Int.tdiv (x53.toNat : Int) 16777216)))), (ofI .u8 (IntKind.wrap .u8 (Int.tmod (IntKind.wrap .u32 (Int.tdiv (x53.toNat : Int) 65536)) 256))), (ofI .u8 (IntKind.wrap .u8 (Int.tmod (IntKind.wrap .u32 (Int.tdiv (x53.toNat : Int) 256)) 256))), (ofI .u8 (IntKind.wrap .u8 (Int.tmod (x53.toNat : Int) 256)))] : List UInt8)) K)
 (IfB (decide (((x53.toNat : Int) : Int) > 65535))
 (Zbvc p0 four1 b6_1 i7 k9 next5 next12 23456 K)
 (Zbvc p0 four1 b6_1 i7 k9 next5 next12 (x53.toNat : Int) K)))
 (next5 (b6_1, (IntKind.wrap .i64 (i7 + 1)), ()))
def Zbbf (p0 : List (Bool × List UInt32)) (four1 : Bool) (b6 : List UInt8) (i7 : Int) (next5 : (List UInt8 × Int × Unit) -> Prop) (j4 : Int) (K : List UInt8 -> Int -> Prop) : Prop :=
 (0 : Int) <= i7 ∧ AtN p0 i7.toNat fun x30 =>
 WfT Zy x30 ->
 b6.length + ([(ofI .u8 j4), (ofI .u8 (IntKind.wrap .u8 (x30.2.length : Int)))] : List UInt8).length <= 140737488355232 ∧
 Zj (List UInt8 × Int × Unit) ((b6 ++ ([(ofI .u8 j4), (ofI .u8 (IntKind.wrap .u8 (x30.2.length : Int)))] : List UInt8)), (0 : Int), ()) fun y next =>
 WfY Zbtp.kinds y ->
 Zbdp p0 four1 i7 next5 y.1 y.2.1 next K
def Zbhc (p0 : List (Bool × List UInt32)) (four1 : Bool) (b6 : List UInt8) (i7 : Int) (next5 : (List UInt8 × Int × Unit) -> Prop) (K : List UInt8 -> Int -> Prop) : Prop :=
 IfB (decide ((i7 : Int) < (p0.length : Int)))
 ((0 : Int) <= i7 ∧ AtN p0 i7.toNat fun x23 =>
 WfT Zy x23 ->
 IfB x23.1
 (Zbbf p0 four1 b6 i7 next5 1 K)
 (Zbbf p0 four1 b6 i7 next5 2 K))
 (K b6 0)
def Zub (p0 : List (Bool × List UInt32)) (four1 : Bool) (K : List UInt8 -> Int -> Prop) : Prop :=
 (WfPs Zin (p0, ()) ->
 Zjv p0 (fun x12 =>
 WfPs Zhu (x12, ()) ->
 IfB ((x12 : Int) != 0)
 (K ([] : List UInt8) 2)
 (Zj (List UInt8 × Int × Unit) (([] : List UInt8), (0 : Int), ()) fun y next =>
 WfY Zbku.kinds y ->
 Zbhc p0 four1 y.1 y.2.1 next K)))
noncomputable def Zblh : Tab := ⟨[(Zht, Zlx)], []⟩
abbrev Zbeu (x : PkTs Zpq) (K : PkTs Zrj -> Prop) : Prop := Zub x.1 x.2.1 (fun r0 r1 => K (r0, r1, ()))
theorem Zcic : Zbeu = fun x K => Zk Tryd.prog Zblh Zbut (Zd Tryd.f20) (parS Zpq x) (PRet Tryd.prog Tryd.f20.results.toList fun a st => outP Zrj st a K) := by kernel_rfl
theorem Zcfx : FnQ Tryd.prog Zvh Zpq Zrj Zbeu := (Zbd Zclj (tab := Zblh) ⟨⟨Ztd, trivial⟩, trivial⟩ rfl).of_eq Zcic
noncomputable def Zbol : Ct := Zcy Zpq Zrj Zbeu
theorem Zchy : Zz Tryd.prog Zvh Zbol := Zdk Zcfx
def Zbjn : PPlan := ⟨[], [], [], [], [], []⟩
theorem Zcmi : Known Tryd.prog Zzn Tryd.f50 Zbjn.plan (Zd Tryd.f50) := by refine ⟨Tryd.func50, ?_, ?_, ?_, ?_, ?_⟩ <;> kernel_rfl
noncomputable def Zclx : Tab := ⟨[], []⟩
noncomputable def Zbne : Ct := Zbgy Tryd.prog Zclx Zbjn (Zd Tryd.f50) Tryd.f50.ntmps Tryd.f50.results.toList
theorem Zclb : Zz Tryd.prog Zzn Zbne := Zcls Zcmi ⟨trivial, trivial⟩
def Zbvn : PLoop := ⟨[(0, PK.lst [Kd.int .u8]), (7, PK.row Zh [Kd.bool, Kd.lst [Kd.int .u32]])], [6], []⟩
def Zbzu : PLoop := ⟨[(11, PK.int .u32), (65, PK.int .i64)], [8, 63, 64], [(8, [PK.bool, PK.row Zl [Kd.int .u32]])]⟩
def Zbiu : PLoop := ⟨[], [0, 6, 7, 8, 9], [(8, [PK.bool, PK.row Zl [Kd.int .u32]])]⟩
def Zbzl : PPlan := ⟨[(18, [0, 1, 4, 5, 6, 2, 3, 7, 8], [])], [(5, Zbvn), (13, Zbzu), (4000010, Zbiu)], [], [], [], []⟩
theorem Zcto : Known Tryd.prog Zrf Tryd.f21 Zbzl.plan (Zd Tryd.f21) := by refine ⟨Tryd.func21, ?_, ?_, ?_, ?_, ?_⟩ <;> kernel_rfl
abbrev Zkq : List Pk := [Pk.lst [Kd.int .u8], Pk.bool]
abbrev Zkv : List Pk := [Pk.lst [Kd.bool, Kd.lst [Kd.int .u32]], Pk.int .i64]
def Zcsk  (K : List (Bool × List UInt32) -> Int -> Prop) : Prop :=
 K ([] : List (Bool × List UInt32)) 7
def Zbot (b0_1 : List UInt8) (j1 : Int) (p7 : List (Bool × List UInt32)) (x46 : UInt8) (x51 : UInt8) (next5 : (List UInt8 × List (Bool × List UInt32) × Unit) -> Prop) (c0 : Bool) (c1 : List UInt32) (K : List (Bool × List UInt32) -> Int -> Prop) : Prop :=
 (0 : Int) <= (IntKind.wrap .i64 (2 + (IntKind.wrap .i64 ((IntKind.wrap .i64 (x51.toNat : Int)) * j1)))) ∧ (IntKind.wrap .i64 (2 + (IntKind.wrap .i64 ((IntKind.wrap .i64 (x51.toNat : Int)) * j1)))) <= (b0_1.length : Int) ∧
 p7.length + ([(c0, c1)] : List (Bool × List UInt32)).length <= 4398046511008 ∧
 next5 ((b0_1.drop ((IntKind.wrap .i64 (2 + (IntKind.wrap .i64 ((IntKind.wrap .i64 (x51.toNat : Int)) * j1)))).toNat)), (p7 ++ ([(c0, c1)] : List (Bool × List UInt32))), ())
def Zzi (c0_1 : Bool) (x62 : List UInt8) (next5 : (List UInt8 × List (Bool × List UInt32) × Unit) -> Prop) (next4000010 : (Bool × List UInt32 × Unit) -> Prop) (as11 : Int) (x65 : Int) (c0_2 : Bool) (c1_2 : List UInt32) (next13 : (Int × Int × Bool × List UInt32 × Unit) -> Prop) (K : List (Bool × List UInt32) -> Int -> Prop) : Prop :=
 IfB (decide ((x65 : Int) < (x62.length : Int)))
 ((0 : Int) <= x65 ∧ AtN x62 x65.toNat fun x67 =>
 WfT Zfk x67 ->
 (0 : Int) <= 8 ∧
 next13 ((Zuk .u32 (IntKind.wrap .u32 (as11 * 256)) (IntKind.wrap .u32 (x67.toNat : Int))), (IntKind.wrap .i64 (x65 + 1)), c0_2, c1_2, ()))
 (c1_2.length + ([(ofI .u32 as11)] : List UInt32).length <= 35184372088736 ∧
 next4000010 (c0_2, (c1_2 ++ ([(ofI .u32 as11)] : List UInt32)), ()))
def Zbsi (b0_1 : List UInt8) (j1 : Int) (p7 : List (Bool × List UInt32)) (x46 : UInt8) (x51 : UInt8) (next5 : (List UInt8 × List (Bool × List UInt32) × Unit) -> Prop) (c0_1 : Bool) (c1_1 : List UInt32) (x62 : List UInt8) (next4000010 : (Bool × List UInt32 × Unit) -> Prop) (K : List (Bool × List UInt32) -> Int -> Prop) : Prop :=
 Zj (Int × Int × Bool × List UInt32 × Unit) ((0 : Int), (0 : Int), c0_1, c1_1, ()) fun y next =>
 WfY Zbzu.kinds y ->
 Zzi c0_1 x62 next5 next4000010 y.1 y.2.1 y.2.2.1 y.2.2.2.1 next K
def Zip (b0_1 : List UInt8) (j1 : Int) (p7 : List (Bool × List UInt32)) (next5 : (List UInt8 × List (Bool × List UInt32) × Unit) -> Prop) (j3 : Bool) (K : List (Bool × List UInt32) -> Int -> Prop) : Prop :=
 IfB j3
 (Zcsk K)
 ((0 : Int) <= 0 ∧ AtN b0_1 0 fun x46 =>
 WfT Zfk x46 ->
 (0 : Int) <= 1 ∧ AtN b0_1 1 fun x51 =>
 WfT Zfk x51 ->
 (0 : Int) <= (IntKind.wrap .i64 (2 + (IntKind.wrap .i64 ((IntKind.wrap .i64 (x51.toNat : Int)) * j1)))) ∧ (IntKind.wrap .i64 (2 + (IntKind.wrap .i64 ((IntKind.wrap .i64 (x51.toNat : Int)) * j1)))) <= (b0_1.length : Int) ∧
 (0 : Int) <= 2 ∧ 2 <= ((IntKind.wrap .i64 (2 + (IntKind.wrap .i64 ((IntKind.wrap .i64 (x51.toNat : Int)) * j1)))).toNat : Int) ∧
 IfB (decide ((j1 : Int) < 1))
 (False)
 (Zmq.pre (((b0_1.take ((IntKind.wrap .i64 (2 + (IntKind.wrap .i64 ((IntKind.wrap .i64 (x51.toNat : Int)) * j1)))).toNat)).drop 2), j1, ()) ∧
 Zlr (fun (y : (Bool × List UInt32 × Unit)) => WfY Zbiu.kinds y -> Zbot b0_1 j1 p7 x46 x51 next5 y.1 y.2.1 K)
 (fun (y : (Bool × List UInt32 × Unit)) (x : (List UInt8 × Unit)) (next : (Bool × List UInt32 × Unit) -> Prop) => WfY Zbiu.kinds y -> WfPs Zmq.ps x -> Zbsi b0_1 j1 p7 x46 x51 next5 y.1 y.2.1 x.1 next K) (Zmq.xs (((b0_1.take ((IntKind.wrap .i64 (2 + (IntKind.wrap .i64 ((IntKind.wrap .i64 (x51.toNat : Int)) * j1)))).toNat)).drop 2), j1, ())) ((((x46.toNat : Int) : Int) == 1), ([] : List UInt32), ())))
def Zbtg (j1 : Int) (b0_1 : List UInt8) (p7 : List (Bool × List UInt32)) (next5 : (List UInt8 × List (Bool × List UInt32) × Unit) -> Prop) (K : List (Bool × List UInt32) -> Int -> Prop) : Prop :=
 IfB (decide (((b0_1.length : Int) : Int) > 0))
 (IfB (decide (((b0_1.length : Int) : Int) < 2))
 (Zip b0_1 j1 p7 next5 true K)
 ((0 : Int) <= 0 ∧ AtN b0_1 0 fun x23 =>
 WfT Zfk x23 ->
 IfB (((x23.toNat : Int) : Int) != 1)
 ((0 : Int) <= 0 ∧ AtN b0_1 0 fun x28 =>
 WfT Zfk x28 ->
 IfB (((x28.toNat : Int) : Int) != 2)
 (Zip b0_1 j1 p7 next5 true K)
 ((0 : Int) <= 1 ∧ AtN b0_1 1 fun x35 =>
 WfT Zfk x35 ->
 Zip b0_1 j1 p7 next5 (decide (((IntKind.wrap .i64 ((IntKind.wrap .i64 (x35.toNat : Int)) * j1)) : Int) > (IntKind.wrap .i64 ((b0_1.length : Int) - 2)))) K))
 ((0 : Int) <= 1 ∧ AtN b0_1 1 fun x35_1 =>
 WfT Zfk x35_1 ->
 Zip b0_1 j1 p7 next5 (decide (((IntKind.wrap .i64 ((IntKind.wrap .i64 (x35_1.toNat : Int)) * j1)) : Int) > (IntKind.wrap .i64 ((b0_1.length : Int) - 2)))) K)))
 ((WfPs Zib (p7, ()) ->
 Zjc p7 (fun x89 =>
 WfPs Zig (x89, ()) ->
 IfB ((x89 : Int) == 0)
 (K p7 0)
 (K ([] : List (Bool × List UInt32)) 7))))
def Zvc (b0 : List UInt8) (j1 : Int) (K : List (Bool × List UInt32) -> Int -> Prop) : Prop :=
 Zj (List UInt8 × List (Bool × List UInt32) × Unit) (b0, ([] : List (Bool × List UInt32)), ()) fun y next =>
 WfY Zbvn.kinds y ->
 Zbtg j1 y.1 y.2.1 next K
def Zmc (b0 : List UInt8) (four1 : Bool) (K : List (Bool × List UInt32) -> Int -> Prop) : Prop :=
 IfB four1
 (Zvc b0 4 K)
 (Zvc b0 2 K)
noncomputable def Zbzc : Tab := ⟨[(Zgv, Zof), (Zzn, Zbne)], [(Zpj, Zmq)]⟩
abbrev Zbia (x : PkTs Zkq) (K : PkTs Zkv -> Prop) : Prop := Zmc x.1 x.2.1 (fun r0 r1 => K (r0, r1, ()))
theorem Zcme : Zbia = fun x K => Zk Tryd.prog Zbzc Zbzl (Zd Tryd.f21) (parS Zkq x) (PRet Tryd.prog Tryd.f21.results.toList fun a st => outP Zkv st a K) := by kernel_rfl
theorem Zcgx : FnQ Tryd.prog Zrf Zkq Zkv Zbia := (Zbd Zcto (tab := Zbzc) ⟨⟨Zsx, Zclb, trivial⟩, ⟨Zccb, trivial⟩⟩ rfl).of_eq Zcme
noncomputable def Zbjb : Ct := Zcy Zkq Zkv Zbia
theorem Zbvo : Zz Tryd.prog Zrf Zbjb := Zdk Zcgx
def Zbwb : PLoop := ⟨[(7, PK.row Zh [Kd.bool, Kd.lst [Kd.int .u32]]), (8, PK.int .i64)], [0, 6], []⟩
def Zbmb : PLoop := ⟨[(8, PK.int .i64), (11, PK.int .i64)], [0, 6, 7, 9, 10], [(9, [PK.bool, PK.row Zl [Kd.int .u32]])]⟩
def Zbki : PLoop := ⟨[(12, PK.int .u32), (13, PK.int .i64)], [0, 6, 7, 8, 9, 10, 11], [(9, [PK.bool, PK.row Zl [Kd.int .u32]])]⟩
def Zbtn : PPlan := ⟨[], [(6, Zbwb), (13, Zbmb), (17, Zbki)], [], [], [], []⟩
theorem Zchb : Known Tryd.prog Zww Tryd.f23 Zbtn.plan (Zd Tryd.f23) := by refine ⟨Tryd.func23, ?_, ?_, ?_, ?_, ?_⟩ <;> kernel_rfl
abbrev Zrx : List Pk := [Pk.lst [Kd.int .u8], Pk.bool]
abbrev Zte : List Pk := [Pk.own Zh [Kd.bool, Kd.lst [Kd.int .u32]], Pk.int .i64]
def Zbel (b0 : List UInt8) (j1 : Int) (out7 : List (Bool × List UInt32)) (i8_1 : Int) (c0 : Bool) (x64 : UInt8) (k11 : Int) (next6 : (List (Bool × List UInt32) × Int × Unit) -> Prop) (next13 : (Int × Int × Bool × List UInt32 × Unit) -> Prop) (as12 : Int) (j13 : Int) (c0_1 : Bool) (c1_1 : List UInt32) (next17 : (Int × Int × Bool × List UInt32 × Unit) -> Prop) (K : List (Bool × List UInt32) -> Int -> Prop) : Prop :=
 IfB (decide ((j13 : Int) < j1))
 ((0 : Int) <= (IntKind.wrap .i64 (i8_1 + j13)) ∧ AtN b0 (IntKind.wrap .i64 (i8_1 + j13)).toNat fun x85 =>
 WfT Zfk x85 ->
 next17 ((IntKind.wrap .u32 ((IntKind.wrap .u32 (256 * as12)) + (IntKind.wrap .u32 (x85.toNat : Int)))), (IntKind.wrap .i64 (j13 + 1)), c0_1, c1_1, ()))
 (c1_1.length + ([(ofI .u32 as12)] : List UInt32).length <= 35184372088736 ∧
 next13 ((IntKind.wrap .i64 (i8_1 + j1)), (IntKind.wrap .i64 (k11 + 1)), c0_1, (c1_1 ++ ([(ofI .u32 as12)] : List UInt32)), ()))
def Zbah (b0 : List UInt8) (j1 : Int) (out7 : List (Bool × List UInt32)) (x57 : UInt8) (x64 : UInt8) (next6 : (List (Bool × List UInt32) × Int × Unit) -> Prop) (i8_1 : Int) (k11 : Int) (c0 : Bool) (c1 : List UInt32) (next13 : (Int × Int × Bool × List UInt32 × Unit) -> Prop) (K : List (Bool × List UInt32) -> Int -> Prop) : Prop :=
 IfB (decide ((k11 : Int) < (IntKind.wrap .i64 (x64.toNat : Int))))
 (Zj (Int × Int × Bool × List UInt32 × Unit) ((0 : Int), (0 : Int), c0, c1, ()) fun y next =>
 WfY Zbki.kinds y ->
 Zbel b0 j1 out7 i8_1 c0 x64 k11 next6 next13 y.1 y.2.1 y.2.2.1 y.2.2.2.1 next K)
 (out7.length + ([(c0, c1)] : List (Bool × List UInt32)).length <= 4398046511008 ∧
 next6 ((out7 ++ ([(c0, c1)] : List (Bool × List UInt32))), i8_1, ()))
def Ziu (b0 : List UInt8) (j1 : Int) (out7 : List (Bool × List UInt32)) (i8 : Int) (next6 : (List (Bool × List UInt32) × Int × Unit) -> Prop) (j4 : Bool) (K : List (Bool × List UInt32) -> Int -> Prop) : Prop :=
 IfB j4
 (K ([] : List (Bool × List UInt32)) 7)
 ((0 : Int) <= i8 ∧ AtN b0 i8.toNat fun x57 =>
 WfT Zfk x57 ->
 (0 : Int) <= (IntKind.wrap .i64 (i8 + 1)) ∧ AtN b0 (IntKind.wrap .i64 (i8 + 1)).toNat fun x64 =>
 WfT Zfk x64 ->
 Zj (Int × Int × Bool × List UInt32 × Unit) ((IntKind.wrap .i64 (i8 + 2)), (0 : Int), (((x57.toNat : Int) : Int) == 1), ([] : List UInt32), ()) fun y next =>
 WfY Zbmb.kinds y ->
 Zbah b0 j1 out7 x57 x64 next6 y.1 y.2.1 y.2.2.1 y.2.2.2.1 next K)
def Zbjq (b0 : List UInt8) (j1 : Int) (out7 : List (Bool × List UInt32)) (i8 : Int) (next6 : (List (Bool × List UInt32) × Int × Unit) -> Prop) (K : List (Bool × List UInt32) -> Int -> Prop) : Prop :=
 IfB (decide ((i8 : Int) < (b0.length : Int)))
 (IfB (decide (((IntKind.wrap .i64 (i8 + 1)) : Int) ≥ (b0.length : Int)))
 (Ziu b0 j1 out7 i8 next6 true K)
 ((0 : Int) <= i8 ∧ AtN b0 i8.toNat fun x28 =>
 WfT Zfk x28 ->
 IfB (decide (((x28.toNat : Int) : Int) < 1))
 (Ziu b0 j1 out7 i8 next6 true K)
 ((0 : Int) <= i8 ∧ AtN b0 i8.toNat fun x35 =>
 WfT Zfk x35 ->
 IfB (decide (((x35.toNat : Int) : Int) > 2))
 (Ziu b0 j1 out7 i8 next6 true K)
 ((0 : Int) <= (IntKind.wrap .i64 (i8 + 1)) ∧ AtN b0 (IntKind.wrap .i64 (i8 + 1)).toNat fun x43 =>
 WfT Zfk x43 ->
 Ziu b0 j1 out7 i8 next6 (decide (((IntKind.wrap .i64 ((IntKind.wrap .i64 (x43.toNat : Int)) * j1)) : Int) > (IntKind.wrap .i64 ((IntKind.wrap .i64 ((b0.length : Int) - i8)) - 2)))) K))))
 ((WfPs Zin (out7, ()) ->
 Zjv out7 (fun x103 =>
 WfPs Zhu (x103, ()) ->
 IfB ((x103 : Int) != 0)
 (K ([] : List (Bool × List UInt32)) 7)
 (K out7 0))))
def Zwx (b0 : List UInt8) (j1 : Int) (K : List (Bool × List UInt32) -> Int -> Prop) : Prop :=
 Zj (List (Bool × List UInt32) × Int × Unit) (([] : List (Bool × List UInt32)), (0 : Int), ()) fun y next =>
 WfY Zbwb.kinds y ->
 Zbjq b0 j1 y.1 y.2.1 next K
def Zvy (b0 : List UInt8) (four1 : Bool) (K : List (Bool × List UInt32) -> Int -> Prop) : Prop :=
 IfB four1
 (Zwx b0 4 K)
 (Zwx b0 2 K)
noncomputable def Zbnj : Tab := ⟨[(Zht, Zlx)], []⟩
abbrev Zbgw (x : PkTs Zrx) (K : PkTs Zte -> Prop) : Prop := Zvy x.1 x.2.1 (fun r0 r1 => K (r0, r1, ()))
theorem Zcvn : Zbgw = fun x K => Zk Tryd.prog Zbnj Zbtn (Zd Tryd.f23) (parS Zrx x) (PRet Tryd.prog Tryd.f23.results.toList fun a st => outP Zte st a K) := by kernel_rfl
theorem Zcbw : FnQ Tryd.prog Zww Zrx Zte Zbgw := (Zbd Zchb (tab := Zbnj) ⟨⟨Ztd, trivial⟩, trivial⟩ rfl).of_eq Zcvn
noncomputable def Zboc : Ct := Zcy Zrx Zte Zbgw
theorem Zcra : Zz Tryd.prog Zww Zboc := Zdk Zcbw
def Zbjg : PLoop := ⟨[(3, PK.int .i64), (8, PK.int .i64)], [6, 7], []⟩
def Zbxc : PPlan := ⟨[], [(3, Zbjg)], [], [], [], []⟩
theorem Zbzw : Known Tryd.prog Zml Tryd.f30 Zbxc.plan (Zd Tryd.f30) := by refine ⟨Tryd.func30, ?_, ?_, ?_, ?_, ?_⟩ <;> kernel_rfl
abbrev Zfi : List Pk := [Pk.lst [Kd.bool, Kd.lst [Kd.int .u32]]]
abbrev Zfp : List Pk := [Pk.int .i64]
def Zbdi (p0 : List (Bool × List UInt32)) (x8 : Int) (next3 : (Int × Int × Unit) -> Prop) (j0 : Int) (K : Int -> Prop) : Prop :=
 next3 (j0, (IntKind.wrap .i64 (x8 + 1)), ())
def Zzt (p0 : List (Bool × List UInt32)) (n3 : Int) (x8 : Int) (next3 : (Int × Int × Unit) -> Prop) (K : Int -> Prop) : Prop :=
 IfB (decide ((x8 : Int) < (p0.length : Int)))
 ((0 : Int) <= x8 ∧ AtN p0 x8.toNat fun x10 =>
 WfT Zy x10 ->
 IfB x10.1
 (Zbdi p0 x8 next3 (IntKind.wrap .i64 (n3 + 1)) K)
 (Zbdi p0 x8 next3 (IntKind.wrap .i64 (n3 + (x10.2.length : Int))) K))
 (K n3)
def Zgb (p0 : List (Bool × List UInt32)) (K : Int -> Prop) : Prop :=
 Zj (Int × Int × Unit) ((0 : Int), (0 : Int), ()) fun y next =>
 WfY Zbjg.kinds y ->
 Zzt p0 y.1 y.2.1 next K
noncomputable def Zbzq : Tab := ⟨[], []⟩
abbrev Zbgz (x : PkTs Zfi) (K : PkTs Zfp -> Prop) : Prop := Zgb x.1 (fun r0 => K (r0, ()))
theorem Zcfb : Zbgz = fun x K => Zk Tryd.prog Zbzq Zbxc (Zd Tryd.f30) (parS Zfi x) (PRet Tryd.prog Tryd.f30.results.toList fun a st => outP Zfp st a K) := by kernel_rfl
theorem Zcpe : FnQ Tryd.prog Zml Zfi Zfp Zbgz := (Zbd Zbzw (tab := Zbzq) ⟨trivial, trivial⟩ rfl).of_eq Zcfb
noncomputable def Ztw : Ct := ctRd Zfi Zfp Zbgz
theorem Zzv : Zz Tryd.prog Zml Ztw := Zcv Zcpe
def Zbpy : PPlan := ⟨[], [], [], [], [], []⟩
theorem Zciw : Known Tryd.prog Zjr Tryd.f63 Zbpy.plan (Zd Tryd.f63) := by refine ⟨Tryd.func63, ?_, ?_, ?_, ?_, ?_⟩ <;> kernel_rfl
abbrev Zrr : List Pk := [Pk.lst [Kd.int .u32]]
abbrev Zry : List Pk := [Pk.own Zl [Kd.int .u32]]
def Zbax (s0 : List UInt32) (K : List UInt32 -> Prop) : Prop :=
 ∀ isnil : Bool, (isnil = true -> s0.length = 0) ->
 IfB isnil
 (K ([] : List UInt32))
 (([] : List UInt32).length + s0.length <= 35184372088736 ∧
 K (([] : List UInt32) ++ s0))
noncomputable def Zbyu : Tab := ⟨[], []⟩
abbrev Zbfe (x : PkTs Zrr) (K : PkTs Zry -> Prop) : Prop := Zbax x.1 (fun r0 => K (r0, ()))
theorem Zcrw : Zbfe = fun x K => Zk Tryd.prog Zbyu Zbpy (Zd Tryd.f63) (parS Zrr x) (PRet Tryd.prog Tryd.f63.results.toList fun a st => outP Zry st a K) := by kernel_rfl
theorem Zcgi : FnQ Tryd.prog Zjr Zrr Zry Zbfe := (Zbd Zciw (tab := Zbyu) ⟨trivial, trivial⟩ rfl).of_eq Zcrw
noncomputable def Zbwp : Ct := Zcy Zrr Zry Zbfe
theorem Zcow : Zz Tryd.prog Zjr Zbwp := Zdk Zcgi
def Zbux : PLoop := ⟨[(3, PK.row Zh [Kd.bool, Kd.lst [Kd.int .u32]]), (11, PK.int .i64)], [9, 10], []⟩
def Zbpb : PPlan := ⟨[(5, [0, 1, 2, 3, 4, 5, 6, 7, 8, 9], [17])], [(3, Zbux)], [], [], [], []⟩
theorem Zcrp : Known Tryd.prog Zhw Tryd.f42 Zbpb.plan (Zd Tryd.f42) := by refine ⟨Tryd.func42, ?_, ?_, ?_, ?_, ?_⟩ <;> kernel_rfl
abbrev Zjy : List Pk := [Pk.lst [Kd.bool, Kd.lst [Kd.int .u32]]]
abbrev Zlk : List Pk := [Pk.own Zh [Kd.bool, Kd.lst [Kd.int .u32]]]
def Zbhm (p0 : List (Bool × List UInt32)) (out3 : List (Bool × List UInt32)) (x11 : Int) (next3 : (List (Bool × List UInt32) × Int × Unit) -> Prop) (K : List (Bool × List UInt32) -> Prop) : Prop :=
 IfB (decide ((x11 : Int) < (p0.length : Int)))
 ((0 : Int) <= x11 ∧ AtN p0 x11.toNat fun x13 =>
 WfT Zy x13 ->
 (WfPs Zrr (x13.2, ()) ->
 Zbax x13.2 (fun x20 =>
 WfPs Zry (x20, ()) ->
 out3.length + ([(x13.1, x20)] : List (Bool × List UInt32)).length <= 4398046511008 ∧
 next3 ((out3 ++ ([(x13.1, x20)] : List (Bool × List UInt32))), (IntKind.wrap .i64 (x11 + 1)), ()))))
 (K out3)
def Znd (p0 : List (Bool × List UInt32)) (K : List (Bool × List UInt32) -> Prop) : Prop :=
 (0 : Int) <= 0 ∧ (0 : Int) <= (p0.length : Int) ∧ ((p0.length : Int) : Int) <= 1000000000 ∧
 Zj (List (Bool × List UInt32) × Int × Unit) ((List.replicate 0 ((false, ([] : List UInt32)) : Bool × List UInt32)), (0 : Int), ()) fun y next =>
 WfY Zbux.kinds y ->
 Zbhm p0 y.1 y.2.1 next K
noncomputable def Zbyz : Tab := ⟨[(Zjr, Zbwp)], []⟩
abbrev Zbde (x : PkTs Zjy) (K : PkTs Zlk -> Prop) : Prop := Znd x.1 (fun r0 => K (r0, ()))
theorem Zckp : Zbde = fun x K => Zk Tryd.prog Zbyz Zbpb (Zd Tryd.f42) (parS Zjy x) (PRet Tryd.prog Tryd.f42.results.toList fun a st => outP Zlk st a K) := by kernel_rfl
theorem Zcrq : FnQ Tryd.prog Zhw Zjy Zlk Zbde := (Zbd Zcrp (tab := Zbyz) ⟨⟨Zcow, trivial⟩, trivial⟩ rfl).of_eq Zckp
noncomputable def Zbie : Ct := Zcy Zjy Zlk Zbde
theorem Zblg : Zz Tryd.prog Zhw Zbie := Zdk Zcrq
def Zboh : PLoop := ⟨[(1, PK.int .i64), (5, PK.row Zh [Kd.bool, Kd.lst [Kd.int .u32]]), (11, PK.int .i64)], [9, 10], []⟩
def Zbnv : PPlan := ⟨[], [(3, Zboh)], [], [], [], []⟩
theorem Zcuh : Known Tryd.prog Zwu Tryd.f46 Zbnv.plan (Zd Tryd.f46) := by refine ⟨Tryd.func46, ?_, ?_, ?_, ?_, ?_⟩ <;> kernel_rfl
abbrev Zph : List Pk := [Pk.lst [Kd.bool, Kd.lst [Kd.int .u32]], Pk.int .i64]
abbrev Zpz : List Pk := [Pk.own Zh [Kd.bool, Kd.lst [Kd.int .u32]]]
def Zwy (out5 : List (Bool × List UInt32)) (x14 : Bool × List UInt32) (x9 : List (Bool × List UInt32)) (x11 : Int) (next3 : (Int × List (Bool × List UInt32) × Int × Unit) -> Prop) (j0 : Int) (j3 : List UInt32) (K : List (Bool × List UInt32) -> Prop) : Prop :=
 out5.length + ([(x14.1, j3)] : List (Bool × List UInt32)).length <= 4398046511008 ∧
 next3 (j0, (out5 ++ ([(x14.1, j3)] : List (Bool × List UInt32))), (IntKind.wrap .i64 (x11 + 1)), ())
def Zbko (x9 : List (Bool × List UInt32)) (n1_1 : Int) (out5 : List (Bool × List UInt32)) (x11 : Int) (next3 : (Int × List (Bool × List UInt32) × Int × Unit) -> Prop) (K : List (Bool × List UInt32) -> Prop) : Prop :=
 IfB (decide ((x11 : Int) < (x9.length : Int)))
 ((0 : Int) <= x11 ∧ x11 < (x9.length : Int) ∧
 AtN x9 x11.toNat fun x14 =>
 WfT Zy x14 ->
 IfB (decide ((n1_1 : Int) <= 0))
 (K out5)
 (IfB x14.1
 (Zwy out5 x14 x9 x11 next3 (IntKind.wrap .i64 (n1_1 - 1)) x14.2 K)
 ((0 : Int) <= (min n1_1 (x14.2.length : Int)) ∧ (min n1_1 (x14.2.length : Int)) <= (x14.2.length : Int) ∧
 Zwy out5 x14 x9 x11 next3 (IntKind.wrap .i64 (n1_1 - ((x14.2.take ((min n1_1 (x14.2.length : Int)).toNat)).length : Int))) (x14.2.take ((min n1_1 (x14.2.length : Int)).toNat)) K)))
 (K out5)
def Zup (p0 : List (Bool × List UInt32)) (n1 : Int) (K : List (Bool × List UInt32) -> Prop) : Prop :=
 (WfPs Zjy (p0, ()) ->
 Znd p0 (fun x9 =>
 WfPs Zlk (x9, ()) ->
 Zj (Int × List (Bool × List UInt32) × Int × Unit) (n1, ([] : List (Bool × List UInt32)), (0 : Int), ()) fun y next =>
 WfY Zboh.kinds y ->
 Zbko x9 y.1 y.2.1 y.2.2.1 next K))
noncomputable def Zbyw : Tab := ⟨[(Zhw, Zbie)], []⟩
abbrev Zbek (x : PkTs Zph) (K : PkTs Zpz -> Prop) : Prop := Zup x.1 x.2.1 (fun r0 => K (r0, ()))
theorem Zcuw : Zbek = fun x K => Zk Tryd.prog Zbyw Zbnv (Zd Tryd.f46) (parS Zph x) (PRet Tryd.prog Tryd.f46.results.toList fun a st => outP Zpz st a K) := by kernel_rfl
theorem Zckn : FnQ Tryd.prog Zwu Zph Zpz Zbek := (Zbd Zcuh (tab := Zbyw) ⟨⟨Zblg, trivial⟩, trivial⟩ rfl).of_eq Zcuw
noncomputable def Zbmd : Ct := Zcy Zph Zpz Zbek
theorem Zcbl : Zz Tryd.prog Zwu Zbmd := Zdk Zckn
def Zbju : PPlan := ⟨[], [], [25], [], [], []⟩
theorem Zcct : Known Tryd.prog Zvk Tryd.f67 Zbju.plan (Zd Tryd.f67) := by refine ⟨Tryd.func67, ?_, ?_, ?_, ?_, ?_⟩ <;> kernel_rfl
abbrev Zqs : List Pk := [Pk.nil, Pk.int .i64]
abbrev Zpm : List Pk := [Pk.own Zl [Kd.int .u32]]
def Zvn (n1 : Int) (K : List UInt32 -> Prop) : Prop :=
 IfB (decide ((n1 : Int) < 0))
 (False)
 (IfB (decide (((IntKind.wrap .i64 (n1 - (IntKind.wrap .i64 (0 - 0)))) : Int) > 0))
 ((0 : Int) <= 0 ∧ 0 <= (0 : Int) ∧
 (0 : Int) < (IntKind.wrap .i64 (n1 - (IntKind.wrap .i64 (0 - 0)))) ∧ (IntKind.wrap .i64 (n1 - (IntKind.wrap .i64 (0 - 0)))) <= 1000000000 ∧
 (0 : Int) <= 0 ∧ 0 <= ((List.replicate (IntKind.wrap .i64 (n1 - (IntKind.wrap .i64 (0 - 0)))).toNat ((ofI .u32 0) : UInt32)).length : Int) ∧
 K ((List.replicate (IntKind.wrap .i64 (n1 - (IntKind.wrap .i64 (0 - 0)))).toNat ((ofI .u32 0) : UInt32)).take 0))
 (K ([] : List UInt32)))
noncomputable def Zbsn : Tab := ⟨[], []⟩
abbrev Zbih (x : PkTs Zqs) (K : PkTs Zpm -> Prop) : Prop := Zvn x.2.1 (fun r0 => K (r0, ()))
theorem Zchq : Zbih = fun x K => Zk Tryd.prog Zbsn Zbju (Zd Tryd.f67) (parS Zqs x) (PRet Tryd.prog Tryd.f67.results.toList fun a st => outP Zpm st a K) := by kernel_rfl
theorem Zcmm : FnQ Tryd.prog Zvk Zqs Zpm Zbih := (Zbd Zcct (tab := Zbsn) ⟨trivial, trivial⟩ rfl).of_eq Zchq
noncomputable def Zbmu : Ct := Zcy Zqs Zpm Zbih
theorem Zcjd : Zz Tryd.prog Zvk Zbmu := Zdk Zcmm
def Zbwg : PLoop := ⟨[(3, PK.int .i64), (11, PK.int .i64)], [0, 9, 10], []⟩
def Zbrg : PLoop := ⟨[(6, PK.row Zl [Kd.int .u32]), (27, PK.int .i64)], [25, 26], []⟩
def Zbkg : PPlan := ⟨[], [(3, Zbwg), (11, Zbrg)], [], [], [], []⟩
theorem Zcan : Known Tryd.prog Zxl Tryd.f47 Zbkg.plan (Zd Tryd.f47) := by refine ⟨Tryd.func47, ?_, ?_, ?_, ?_, ?_⟩ <;> kernel_rfl
abbrev Ztj : List Pk := [Pk.lst [Kd.lst [Kd.int .u32]]]
abbrev Zsn : List Pk := [Pk.own Zl [Kd.int .u32]]
def Zbbe (slices0 : List (List UInt32)) (newslice6 : List UInt32) (x27 : Int) (next11 : (List UInt32 × Int × Unit) -> Prop) (K : List UInt32 -> Prop) : Prop :=
 IfB (decide ((x27 : Int) < (slices0.length : Int)))
 ((0 : Int) <= x27 ∧ AtN slices0 x27.toNat fun x29 =>
 WfT Zbub x29 ->
 newslice6.length + x29.length <= 35184372088736 ∧
 next11 ((newslice6 ++ x29), (IntKind.wrap .i64 (x27 + 1)), ()))
 (K newslice6)
def Zbfg (slices0 : List (List UInt32)) (size3 : Int) (x11 : Int) (next3 : (Int × Int × Unit) -> Prop) (K : List UInt32 -> Prop) : Prop :=
 IfB (decide ((x11 : Int) < (slices0.length : Int)))
 ((0 : Int) <= x11 ∧ AtN slices0 x11.toNat fun x13 =>
 WfT Zbub x13 ->
 IfB (decide (((IntKind.wrap .i64 (size3 + (x13.length : Int))) : Int) < 0))
 (False)
 (next3 ((IntKind.wrap .i64 (size3 + (x13.length : Int))), (IntKind.wrap .i64 (x11 + 1)), ())))
 ((WfPs Zqs ((), size3, ()) ->
 Zvn size3 (fun x24 =>
 WfPs Zpm (x24, ()) ->
 Zj (List UInt32 × Int × Unit) (x24, (0 : Int), ()) fun y next =>
 WfY Zbrg.kinds y ->
 Zbbe slices0 y.1 y.2.1 next K)))
def Zve (slices0 : List (List UInt32)) (K : List UInt32 -> Prop) : Prop :=
 Zj (Int × Int × Unit) ((0 : Int), (0 : Int), ()) fun y next =>
 WfY Zbwg.kinds y ->
 Zbfg slices0 y.1 y.2.1 next K
noncomputable def Zbmp : Tab := ⟨[(Zvk, Zbmu)], []⟩
abbrev Zbhu (x : PkTs Ztj) (K : PkTs Zsn -> Prop) : Prop := Zve x.1 (fun r0 => K (r0, ()))
theorem Zccx : Zbhu = fun x K => Zk Tryd.prog Zbmp Zbkg (Zd Tryd.f47) (parS Ztj x) (PRet Tryd.prog Tryd.f47.results.toList fun a st => outP Zsn st a K) := by kernel_rfl
theorem Zcmv : FnQ Tryd.prog Zxl Ztj Zsn Zbhu := (Zbd Zcan (tab := Zbmp) ⟨⟨Zcjd, trivial⟩, trivial⟩ rfl).of_eq Zccx
noncomputable def Zbnt : Ct := Zcy Ztj Zsn Zbhu
theorem Zcqp : Zz Tryd.prog Zxl Zbnt := Zdk Zcmv
def Zbwk : PPlan := ⟨[], [], [], [], [], []⟩
theorem Zckl : Known Tryd.prog Zrk Tryd.f17 Zbwk.plan (Zd Tryd.f17) := by refine ⟨Tryd.func17, ?_, ?_, ?_, ?_, ?_⟩ <;> kernel_rfl
abbrev Zni : List Pk := [Pk.lst [Kd.bool, Kd.lst [Kd.int .u32]], Pk.lst [Kd.bool, Kd.lst [Kd.int .u32]]]
abbrev Zog : List Pk := [Pk.lst [Kd.bool, Kd.lst [Kd.int .u32]]]
def Zyb (j0 : List (Bool × List UInt32)) (j1 : List (Bool × List UInt32)) (K : List (Bool × List UInt32) -> Prop) : Prop :=
 j0.length + j1.length <= 4398046511008 ∧
 K (j0 ++ j1)
def Zld (x20 : List (Bool × List UInt32)) (x22 : List (Bool × List UInt32)) (j3 : Bool) (K : List (Bool × List UInt32) -> Prop) : Prop :=
 IfB j3
 ((0 : Int) <= (IntKind.wrap .i64 ((x20.length : Int) - 1)) ∧ (IntKind.wrap .i64 ((x20.length : Int) - 1)) < (x20.length : Int) ∧
 AtN x20 ((IntKind.wrap .i64 ((x20.length : Int) - 1)).toNat) fun x54 =>
 WfT Zy x54 ->
 (0 : Int) <= 0 ∧ 0 < (x22.length : Int) ∧
 AtN x22 0 fun x58 =>
 WfT Zy x58 ->
 (WfPs Ztj (([x54.2, x58.2] : List (List UInt32)), ()) ->
 Zve ([x54.2, x58.2] : List (List UInt32)) (fun x60 =>
 WfPs Zsn (x60, ()) ->
 (0 : Int) <= (IntKind.wrap .i64 ((x20.length : Int) - 1)) ∧ (IntKind.wrap .i64 ((x20.length : Int) - 1)) < (x20.length : Int) ∧
 AtN x20 ((IntKind.wrap .i64 ((x20.length : Int) - 1)).toNat) fun el =>
 WfT Zy el ->
 (0 : Int) <= 1 ∧ 1 <= (x22.length : Int) ∧
 Zyb (x20.set ((IntKind.wrap .i64 ((x20.length : Int) - 1)).toNat) (el.1, x60)) (x22.drop 1) K)))
 (Zyb x20 x22 K)
def Zsf (two0 : List (Bool × List UInt32)) (four1 : List (Bool × List UInt32)) (K : List (Bool × List UInt32) -> Prop) : Prop :=
 (WfPs Zfi (two0, ()) ->
 Zgb two0 (fun x10 =>
 WfPs Zfp (x10, ()) ->
 (WfPs Zfi (four1, ()) ->
 Zgb four1 (fun x12 =>
 WfPs Zfp (x12, ()) ->
 IfB (decide (((IntKind.wrap .i64 (x10 - x12)) : Int) < 0))
 ((WfPs Zjy (two0, ()) ->
 Znd two0 (fun x17 =>
 WfPs Zlk (x17, ()) ->
 K x17)))
 ((WfPs Zph (two0, (IntKind.wrap .i64 (x10 - x12)), ()) ->
 Zup two0 (IntKind.wrap .i64 (x10 - x12)) (fun x20 =>
 WfPs Zpz (x20, ()) ->
 (WfPs Zjy (four1, ()) ->
 Znd four1 (fun x22 =>
 WfPs Zlk (x22, ()) ->
 IfB (decide (((IntKind.wrap .i64 ((x20.length : Int) - 1)) : Int) ≥ 0))
 (IfB (decide (((x22.length : Int) : Int) > 0))
 ((0 : Int) <= (IntKind.wrap .i64 ((x20.length : Int) - 1)) ∧ (IntKind.wrap .i64 ((x20.length : Int) - 1)) < (x20.length : Int) ∧
 AtN x20 ((IntKind.wrap .i64 ((x20.length : Int) - 1)).toNat) fun x38 =>
 WfT Zy x38 ->
 IfB (!x38.1)
 ((0 : Int) <= 0 ∧ 0 < (x22.length : Int) ∧
 AtN x22 0 fun x45 =>
 WfT Zy x45 ->
 Zld x20 x22 (!x45.1) K)
 (Zld x20 x22 false K))
 (Zld x20 x22 false K))
 (Zld x20 x22 false K))))))))))
noncomputable def Zbra : Tab := ⟨[(Zml, Ztw), (Zhw, Zbie), (Zwu, Zbmd), (Zxl, Zbnt)], []⟩
abbrev Zze (x : PkTs Zni) (K : PkTs Zog -> Prop) : Prop := Zsf x.1 x.2.1 (fun r0 => K (r0, ()))
theorem Zche : Zze = fun x K => Zk Tryd.prog Zbra Zbwk (Zd Tryd.f17) (parS Zni x) (PRet Tryd.prog Tryd.f17.results.toList fun a st => outP Zog st a K) := by kernel_rfl
theorem Zcdp : FnQ Tryd.prog Zrk Zni Zog Zze := (Zbd Zckl (tab := Zbra) ⟨⟨Zzv, Zblg, Zcbl, Zcqp, trivial⟩, trivial⟩ rfl).of_eq Zche
noncomputable def Zbda : Ct := Zcy Zni Zog Zze
theorem Zbzo : Zz Tryd.prog Zrk Zbda := Zdk Zcdp
def Zbmm : PLoop := ⟨[(3, PK.row Zh [Kd.bool, Kd.lst [Kd.int .u32]]), (4, PK.int .i64)], [0], []⟩
def Zbxn : PPlan := ⟨[(5, [0, 1, 2, 3, 4, 5, 6, 7, 8, 9, 10, 11, 12, 13, 14, 15, 16], [17])], [(3, Zbmm)], [], [], [], []⟩
theorem Zcbz : Known Tryd.prog Zhe Tryd.f45 Zbxn.plan (Zd Tryd.f45) := by refine ⟨Tryd.func45, ?_, ?_, ?_, ?_, ?_⟩ <;> kernel_rfl
abbrev Zor : List Pk := [Pk.lst [Kd.bool, Kd.lst [Kd.int .u32]]]
abbrev Zpy : List Pk := [Pk.own Zh [Kd.bool, Kd.lst [Kd.int .u32]]]
def Zbds (p0 : List (Bool × List UInt32)) (out3 : List (Bool × List UInt32)) (i4 : Int) (next3 : (List (Bool × List UInt32) × Int × Unit) -> Prop) (K : List (Bool × List UInt32) -> Prop) : Prop :=
 IfB (decide ((i4 : Int) < (p0.length : Int)))
 ((0 : Int) <= i4 ∧ AtN p0 i4.toNat fun x15 =>
 WfT Zy x15 ->
 (0 : Int) <= i4 ∧ AtN p0 i4.toNat fun x21 =>
 WfT Zy x21 ->
 ([] : List UInt32).length + x21.2.length <= 35184372088736 ∧
 out3.length + ([(x15.1, (([] : List UInt32) ++ x21.2))] : List (Bool × List UInt32)).length <= 4398046511008 ∧
 next3 ((out3 ++ ([(x15.1, (([] : List UInt32) ++ x21.2))] : List (Bool × List UInt32))), (IntKind.wrap .i64 (i4 + 1)), ()))
 (K out3)
def Zvb (p0 : List (Bool × List UInt32)) (K : List (Bool × List UInt32) -> Prop) : Prop :=
 Zj (List (Bool × List UInt32) × Int × Unit) (([] : List (Bool × List UInt32)), (0 : Int), ()) fun y next =>
 WfY Zbmm.kinds y ->
 Zbds p0 y.1 y.2.1 next K
noncomputable def Zbzj : Tab := ⟨[], []⟩
abbrev Zbhp (x : PkTs Zor) (K : PkTs Zpy -> Prop) : Prop := Zvb x.1 (fun r0 => K (r0, ()))
theorem Zciq : Zbhp = fun x K => Zk Tryd.prog Zbzj Zbxn (Zd Tryd.f45) (parS Zor x) (PRet Tryd.prog Tryd.f45.results.toList fun a st => outP Zpy st a K) := by kernel_rfl
theorem Zcky : FnQ Tryd.prog Zhe Zor Zpy Zbhp := (Zbd Zcbz (tab := Zbzj) ⟨trivial, trivial⟩ rfl).of_eq Zciq
noncomputable def Zbrx : Ct := Zcy Zor Zpy Zbhp
theorem Zcit : Zz Tryd.prog Zhe Zbrx := Zdk Zcky
def Zblr : PLoop := ⟨[(8, PK.int .i64), (9, PK.int .i64)], [0, 1, 2], []⟩
def Zbsd : PLoop := ⟨[(10, PK.row Zh [Kd.bool, Kd.lst [Kd.int .u32]]), (11, PK.int .i64)], [1, 2], []⟩
def Zbxe : PPlan := ⟨[], [(5, Zblr), (12, Zbsd)], [], [], [], []⟩
theorem Zckq : Known Tryd.prog Zyd Tryd.f16 Zbxe.plan (Zd Tryd.f16) := by refine ⟨Tryd.func16, ?_, ?_, ?_, ?_, ?_⟩ <;> kernel_rfl
abbrev Zsa : List Pk := [Pk.lst [Kd.bool, Kd.lst [Kd.int .u32]], Pk.int .u32, Pk.int .i64]
abbrev Zqm : List Pk := [Pk.own Zh [Kd.bool, Kd.lst [Kd.int .u32]], Pk.int .i64]
def Zud (as1 : Int) (n2 : Int) (i11 : Int) (next12 : (List (Bool × List UInt32) × Int × Unit) -> Prop) (j2 : List (Bool × List UInt32)) (K : List (Bool × List UInt32) -> Int -> Prop) : Prop :=
 (0 : Int) <= 0 ∧ 0 < (j2.length : Int) ∧
 AtN j2 0 fun x67 =>
 WfT Zy x67 ->
 ([(ofI .u32 as1)] : List UInt32).length + x67.2.length <= 35184372088736 ∧
 (0 : Int) <= 0 ∧ 0 < (j2.length : Int) ∧
 AtN j2 0 fun el =>
 WfT Zy el ->
 next12 ((j2.set 0 (el.1, (([(ofI .u32 as1)] : List UInt32) ++ x67.2))), (IntKind.wrap .i64 (i11 + 1)), ())
def Zuy (as1 : Int) (n2 : Int) (out10 : List (Bool × List UInt32)) (i11 : Int) (next12 : (List (Bool × List UInt32) × Int × Unit) -> Prop) (j4 : Bool) (K : List (Bool × List UInt32) -> Int -> Prop) : Prop :=
 IfB j4
 (([(false, ([] : List UInt32))] : List (Bool × List UInt32)).length + out10.length <= 4398046511008 ∧
 Zud as1 n2 i11 next12 (([(false, ([] : List UInt32))] : List (Bool × List UInt32)) ++ out10) K)
 (Zud as1 n2 i11 next12 out10 K)
def Zbtl (as1 : Int) (n2 : Int) (out10 : List (Bool × List UInt32)) (i11 : Int) (next12 : (List (Bool × List UInt32) × Int × Unit) -> Prop) (K : List (Bool × List UInt32) -> Int -> Prop) : Prop :=
 IfB (decide ((i11 : Int) < n2))
 (IfB (((out10.length : Int) : Int) == 0)
 (Zuy as1 n2 out10 i11 next12 true K)
 ((0 : Int) <= 0 ∧ 0 < (out10.length : Int) ∧
 AtN out10 0 fun x55 =>
 WfT Zy x55 ->
 Zuy as1 n2 out10 i11 next12 x55.1 K))
 (K out10 0)
def Zbhn (p0 : List (Bool × List UInt32)) (as1 : Int) (n2 : Int) (all8 : Int) (i9 : Int) (next5 : (Int × Int × Unit) -> Prop) (K : List (Bool × List UInt32) -> Int -> Prop) : Prop :=
 IfB (decide ((i9 : Int) < (p0.length : Int)))
 ((0 : Int) <= i9 ∧ AtN p0 i9.toNat fun x32 =>
 WfT Zy x32 ->
 next5 ((IntKind.wrap .i64 (all8 + (x32.2.length : Int))), (IntKind.wrap .i64 (i9 + 1)), ()))
 (IfB (decide ((n2 : Int) > (IntKind.wrap .i64 (64 - all8))))
 (K ([] : List (Bool × List UInt32)) 3)
 ((WfPs Zor (p0, ()) ->
 Zvb p0 (fun x42 =>
 WfPs Zpy (x42, ()) ->
 Zj (List (Bool × List UInt32) × Int × Unit) (x42, (0 : Int), ()) fun y next =>
 WfY Zbsd.kinds y ->
 Zbtl as1 n2 y.1 y.2.1 next K))))
def Znh (p0 : List (Bool × List UInt32)) (as1 : Int) (n2 : Int) (j3 : Bool) (K : List (Bool × List UInt32) -> Int -> Prop) : Prop :=
 IfB j3
 (K ([] : List (Bool × List UInt32)) 2)
 (Zj (Int × Int × Unit) ((0 : Int), (0 : Int), ()) fun y next =>
 WfY Zblr.kinds y ->
 Zbhn p0 as1 n2 y.1 y.2.1 next K)
def Zuq (p0 : List (Bool × List UInt32)) (as1 : Int) (n2 : Int) (K : List (Bool × List UInt32) -> Int -> Prop) : Prop :=
 (WfPs Zin (p0, ()) ->
 Zjv p0 (fun x13 =>
 WfPs Zhu (x13, ()) ->
 IfB ((x13 : Int) != 0)
 (Znh p0 as1 n2 true K)
 (IfB ((as1 : Int) == 0)
 (Znh p0 as1 n2 true K)
 (Znh p0 as1 n2 (decide ((n2 : Int) < 0)) K))))
noncomputable def Zbpt : Tab := ⟨[(Zht, Zlx), (Zhe, Zbrx)], []⟩
abbrev Zbaa (x : PkTs Zsa) (K : PkTs Zqm -> Prop) : Prop := Zuq x.1 x.2.1 x.2.2.1 (fun r0 r1 => K (r0, r1, ()))
theorem Zcir : Zbaa = fun x K => Zk Tryd.prog Zbpt Zbxe (Zd Tryd.f16) (parS Zsa x) (PRet Tryd.prog Tryd.f16.results.toList fun a st => outP Zqm st a K) := by kernel_rfl
theorem Zcqs : FnQ Tryd.prog Zyd Zsa Zqm Zbaa := (Zbd Zckq (tab := Zbpt) ⟨⟨Ztd, Zcit, trivial⟩, trivial⟩ rfl).of_eq Zcir
noncomputable def Zbsq : Ct := Zcy Zsa Zqm Zbaa
theorem Zcaf : Zz Tryd.prog Zyd Zbsq := Zdk Zcqs
def Zbxq : PLoop := ⟨[(5, PK.int .i64)], [0, 1], []⟩
def Zbrc : PLoop := ⟨[(6, PK.int .i64)], [0, 1, 5], []⟩
def Zbst : PPlan := ⟨[], [(4, Zbxq), (9, Zbrc)], [], [], [], []⟩
theorem Zcef : Known Tryd.prog Zkn Tryd.f13 Zbst.plan (Zd Tryd.f13) := by refine ⟨Tryd.func13, ?_, ?_, ?_, ?_, ?_⟩ <;> kernel_rfl
abbrev Zhj : List Pk := [Pk.lst [Kd.bool, Kd.lst [Kd.int .u32]], Pk.lst [Kd.bool, Kd.lst [Kd.int .u32]]]
abbrev Zhn : List Pk := [Pk.bool]
def Zbeh (a0 : List (Bool × List UInt32)) (b1 : List (Bool × List UInt32)) (i5 : Int) (next4 : (Int × Unit) -> Prop) (k6 : Int) (next9 : (Int × Unit) -> Prop) (K : Bool -> Prop) : Prop :=
 (0 : Int) <= i5 ∧ AtN a0 i5.toNat fun x47 =>
 WfT Zy x47 ->
 IfB (decide ((k6 : Int) < (x47.2.length : Int)))
 ((0 : Int) <= i5 ∧ AtN a0 i5.toNat fun x56 =>
 WfT Zy x56 ->
 (0 : Int) <= k6 ∧ AtN x56.2 k6.toNat fun x60 =>
 WfT Zhi x60 ->
 (0 : Int) <= i5 ∧ AtN b1 i5.toNat fun x64 =>
 WfT Zy x64 ->
 (0 : Int) <= k6 ∧ AtN x64.2 k6.toNat fun x68 =>
 WfT Zhi x68 ->
 IfB (((x60.toNat : Int) : Int) != (x68.toNat : Int))
 (K false)
 (next9 ((IntKind.wrap .i64 (k6 + 1)), ())))
 (next4 ((IntKind.wrap .i64 (i5 + 1)), ()))
def Zyg (a0 : List (Bool × List UInt32)) (b1 : List (Bool × List UInt32)) (i5 : Int) (next4 : (Int × Unit) -> Prop) (j3 : Bool) (K : Bool -> Prop) : Prop :=
 IfB j3
 (K false)
 (Zj (Int × Unit) ((0 : Int), ()) fun y next =>
 WfY Zbrc.kinds y ->
 Zbeh a0 b1 i5 next4 y.1 next K)
def Zbdv (a0 : List (Bool × List UInt32)) (b1 : List (Bool × List UInt32)) (i5 : Int) (next4 : (Int × Unit) -> Prop) (K : Bool -> Prop) : Prop :=
 IfB (decide ((i5 : Int) < (a0.length : Int)))
 ((0 : Int) <= i5 ∧ AtN a0 i5.toNat fun x20 =>
 WfT Zy x20 ->
 (0 : Int) <= i5 ∧ AtN b1 i5.toNat fun x25 =>
 WfT Zy x25 ->
 IfB (!(x20.1 == x25.1))
 (Zyg a0 b1 i5 next4 true K)
 ((0 : Int) <= i5 ∧ AtN a0 i5.toNat fun x32 =>
 WfT Zy x32 ->
 (0 : Int) <= i5 ∧ AtN b1 i5.toNat fun x38 =>
 WfT Zy x38 ->
 Zyg a0 b1 i5 next4 (((x32.2.length : Int) : Int) != (x38.2.length : Int)) K))
 (K true)
def Zhc (a0 : List (Bool × List UInt32)) (b1 : List (Bool × List UInt32)) (K : Bool -> Prop) : Prop :=
 IfB (((a0.length : Int) : Int) != (b1.length : Int))
 (K false)
 (Zj (Int × Unit) ((0 : Int), ()) fun y next =>
 WfY Zbxq.kinds y ->
 Zbdv a0 b1 y.1 next K)
noncomputable def Zbze : Tab := ⟨[], []⟩
abbrev Zzo (x : PkTs Zhj) (K : PkTs Zhn -> Prop) : Prop := Zhc x.1 x.2.1 (fun r0 => K (r0, ()))
theorem Zclv : Zzo = fun x K => Zk Tryd.prog Zbze Zbst (Zd Tryd.f13) (parS Zhj x) (PRet Tryd.prog Tryd.f13.results.toList fun a st => outP Zhn st a K) := by kernel_rfl
theorem Zcqc : FnQ Tryd.prog Zkn Zhj Zhn Zzo := (Zbd Zcef (tab := Zbze) ⟨trivial, trivial⟩ rfl).of_eq Zclv
noncomputable def Zqg : Ct := ctRd Zhj Zhn Zzo
theorem Zwb : Zz Tryd.prog Zkn Zqg := Zcv Zcqc
def Zbqd : PLoop := ⟨[(5, PK.row Zjq [Kd.str]), (19, PK.int .i64)], [17, 18], []⟩
def Zbrp : PLoop := ⟨[(8, PK.row Zjq [Kd.str]), (26, PK.int .i64)], [5, 7, 17, 18, 19, 24, 25], []⟩
def Zbwn : PPlan := ⟨[], [(6, Zbqd), (10, Zbrp)], [], [], [], []⟩
theorem Zctz : Known Tryd.prog Zlq Tryd.f9 Zbwn.plan (Zd Tryd.f9) := by refine ⟨Tryd.func9, ?_, ?_, ?_, ?_, ?_⟩ <;> kernel_rfl
abbrev Zkp : List Pk := [Pk.lst [Kd.bool, Kd.lst [Kd.int .u32]]]
abbrev Zkz : List Pk := [Pk.str, Pk.int .i64]
def Zmm (l5 : List (List UInt8)) (p0 : List (Bool × List UInt32)) (x19 : Int) (next6 : (List (List UInt8) × Int × Unit) -> Prop) (j1 : List UInt8) (K : List UInt8 -> Int -> Prop) : Prop :=
 l5.length + ([j1] : List (List UInt8)).length <= 8796093022112 ∧
 next6 ((l5 ++ ([j1] : List (List UInt8))), (IntKind.wrap .i64 (x19 + 1)), ())
def Zbgp (l5 : List (List UInt8)) (x21 : Bool × List UInt32) (p0 : List (Bool × List UInt32)) (x19 : Int) (next6 : (List (List UInt8) × Int × Unit) -> Prop) (x8 : List (List UInt8)) (x26 : Int) (next10 : (List (List UInt8) × Int × Unit) -> Prop) (K : List UInt8 -> Int -> Prop) : Prop :=
 IfB (decide ((x26 : Int) < (x21.2.length : Int)))
 ((0 : Int) <= x26 ∧ AtN x21.2 x26.toNat fun x28 =>
 WfT Zhi x28 ->
 (WfPs Zul ((IntKind.wrap .u64 (x28.toNat : Int)), (10 : Int), ()) ->
 Zty (IntKind.wrap .u64 (x28.toNat : Int)) (10 : Int) (fun x33 =>
 WfPs Zyf (x33, ()) ->
 x8.length + ([x33] : List (List UInt8)).length <= 8796093022112 ∧
 next10 ((x8 ++ ([x33] : List (List UInt8))), (IntKind.wrap .i64 (x26 + 1)), ()))))
 ((WfPs Zxb (x8, ([32] : List UInt8), ()) ->
 Zxv x8 ([32] : List UInt8) (fun x38 =>
 WfPs Zvj (x38, ()) ->
 IfB x21.1
 (([123] : List UInt8).length + x38.length <= Zi ∧
 (([123] : List UInt8) ++ x38).length + ([125] : List UInt8).length <= Zi ∧
 Zmm l5 p0 x19 next6 ((([123] : List UInt8) ++ x38) ++ ([125] : List UInt8)) K)
 (Zmm l5 p0 x19 next6 x38 K))))
def Zbdk (p0 : List (Bool × List UInt32)) (l5 : List (List UInt8)) (x19 : Int) (next6 : (List (List UInt8) × Int × Unit) -> Prop) (K : List UInt8 -> Int -> Prop) : Prop :=
 IfB (decide ((x19 : Int) < (p0.length : Int)))
 ((0 : Int) <= x19 ∧ AtN p0 x19.toNat fun x21 =>
 WfT Zy x21 ->
 Zj (List (List UInt8) × Int × Unit) (([] : List (List UInt8)), (0 : Int), ()) fun y next =>
 WfY Zbrp.kinds y ->
 Zbgp l5 x21 p0 x19 next6 y.1 y.2.1 next K)
 ((WfPs Zxb (l5, ([32] : List UInt8), ()) ->
 Zxv l5 ([32] : List UInt8) (fun x50 =>
 WfPs Zvj (x50, ()) ->
 K x50 0)))
def Zme (p0 : List (Bool × List UInt32)) (K : List UInt8 -> Int -> Prop) : Prop :=
 (WfPs Zib (p0, ()) ->
 Zjc p0 (fun x13 =>
 WfPs Zig (x13, ()) ->
 IfB ((x13 : Int) != 0)
 (K ([] : List UInt8) x13)
 (Zj (List (List UInt8) × Int × Unit) (([] : List (List UInt8)), (0 : Int), ()) fun y next =>
 WfY Zbqd.kinds y ->
 Zbdk p0 y.1 y.2.1 next K)))
noncomputable def Zboe : Tab := ⟨[(Zgv, Zof), (Zkc, Zbfa), (Zwk, Zboa)], []⟩
abbrev Zbcv (x : PkTs Zkp) (K : PkTs Zkz -> Prop) : Prop := Zme x.1 (fun r0 r1 => K (r0, r1, ()))
theorem Zces : Zbcv = fun x K => Zk Tryd.prog Zboe Zbwn (Zd Tryd.f9) (parS Zkp x) (PRet Tryd.prog Tryd.f9.results.toList fun a st => outP Zkz st a K) := by kernel_rfl
theorem Zckg : FnQ Tryd.prog Zlq Zkp Zkz Zbcv := (Zbd Zctz (tab := Zboe) ⟨⟨Zsx, Zbxf, Zcpn, trivial⟩, trivial⟩ rfl).of_eq Zces
noncomputable def Zva : Ct := ctRd Zkp Zkz Zbcv
theorem Zbik : Zz Tryd.prog Zlq Zva := Zcv Zckg
def Zbpe : PLoop := ⟨[(3, PK.str), (4, PK.int .i64)], [0], []⟩
def Zbnz : PPlan := ⟨[], [(4, Zbpe)], [], [], [], []⟩
theorem Zciz : Known Tryd.prog Ztu Tryd.f34 Zbnz.plan (Zd Tryd.f34) := by refine ⟨Tryd.func34, ?_, ?_, ?_, ?_, ?_⟩ <;> kernel_rfl
abbrev Zti : List Pk := [Pk.int .i64]
abbrev Zos : List Pk := [Pk.str]
def Zbja (n0 : Int) (s3 : List UInt8) (x4 : Int) (next4 : (List UInt8 × Int × Unit) -> Prop) (j3 : Int) (K : List UInt8 -> Prop) : Prop :=
 ([(ofI .u8 (IntKind.wrap .u8 (IntKind.wrap .i64 (48 + j3))))] : List UInt8).length + s3.length <= Zi ∧
 (10 : Int) ≠ 0 ∧
 next4 ((([(ofI .u8 (IntKind.wrap .u8 (IntKind.wrap .i64 (48 + j3))))] : List UInt8) ++ s3), (IntKind.wrap .i64 (Int.tdiv x4 10)), ())
def Zbrw (n0 : Int) (s3 : List UInt8) (x4 : Int) (next4 : (List UInt8 × Int × Unit) -> Prop) (K : List UInt8 -> Prop) : Prop :=
 IfB ((x4 : Int) != 0)
 ((10 : Int) ≠ 0 ∧
 IfB (decide (((Int.tmod x4 10) : Int) < 0))
 (Zbja n0 s3 x4 next4 (IntKind.wrap .i64 (0 - (Int.tmod x4 10))) K)
 (Zbja n0 s3 x4 next4 (Int.tmod x4 10) K))
 (IfB (decide ((n0 : Int) < 0))
 (([45] : List UInt8).length + s3.length <= Zi ∧
 K (([45] : List UInt8) ++ s3))
 (K s3))
def Zyp (n0 : Int) (K : List UInt8 -> Prop) : Prop :=
 IfB ((n0 : Int) == 0)
 (K ([48] : List UInt8))
 (Zj (List UInt8 × Int × Unit) (([] : List UInt8), n0, ()) fun y next =>
 WfY Zbpe.kinds y ->
 Zbrw n0 y.1 y.2.1 next K)
noncomputable def Zbll : Tab := ⟨[], []⟩
abbrev Zbga (x : PkTs Zti) (K : PkTs Zos -> Prop) : Prop := Zyp x.1 (fun r0 => K (r0, ()))
theorem Zclh : Zbga = fun x K => Zk Tryd.prog Zbll Zbnz (Zd Tryd.f34) (parS Zti x) (PRet Tryd.prog Tryd.f34.results.toList fun a st => outP Zos st a K) := by kernel_rfl
theorem Zcmg : FnQ Tryd.prog Ztu Zti Zos Zbga := (Zbd Zciz (tab := Zbll) ⟨trivial, trivial⟩ rfl).of_eq Zclh
noncomputable def Zbte : Ct := ctRd Zti Zos Zbga
theorem Zcnq : Zz Tryd.prog Ztu Zbte := Zcv Zcmg
def Zbmn : PLoop := ⟨[(4, PK.str), (5, PK.int .i64)], [0], []⟩
def Zbqc : PLoop := ⟨[(4, PK.str), (6, PK.int .i64)], [0, 5], []⟩
def Zbnq : PPlan := ⟨[], [(5, Zbmn), (12, Zbqc)], [], [], [], []⟩
theorem Zcke : Known Tryd.prog Zvl Tryd.f10 Zbnq.plan (Zd Tryd.f10) := by refine ⟨Tryd.func10, ?_, ?_, ?_, ?_, ?_⟩ <;> kernel_rfl
abbrev Zrn : List Pk := [Pk.lst [Kd.bool, Kd.lst [Kd.int .u32]]]
abbrev Ztl : List Pk := [Pk.str, Pk.int .i64]
def Zxu (p0 : List (Bool × List UInt32)) (i5 : Int) (k6 : Int) (next5 : (List UInt8 × Int × Unit) -> Prop) (next12 : (List UInt8 × Int × Unit) -> Prop) (j1_2 : List UInt8) (K : List UInt8 -> Int -> Prop) : Prop :=
 (0 : Int) <= i5 ∧ AtN p0 i5.toNat fun x44 =>
 WfT Zy x44 ->
 (0 : Int) <= k6 ∧ AtN x44.2 k6.toNat fun x48 =>
 WfT Zhi x48 ->
 (WfPs Zti ((IntKind.wrap .i64 (x48.toNat : Int)), ()) ->
 Zyp (IntKind.wrap .i64 (x48.toNat : Int)) (fun x51 =>
 WfPs Zos (x51, ()) ->
 j1_2.length + x51.length <= Zi ∧
 next12 ((j1_2 ++ x51), (IntKind.wrap .i64 (k6 + 1)), ())))
def Zvw (p0 : List (Bool × List UInt32)) (i5 : Int) (next5 : (List UInt8 × Int × Unit) -> Prop) (j1_3 : List UInt8) (K : List UInt8 -> Int -> Prop) : Prop :=
 next5 (j1_3, (IntKind.wrap .i64 (i5 + 1)), ())
def Zbec (p0 : List (Bool × List UInt32)) (i5 : Int) (next5 : (List UInt8 × Int × Unit) -> Prop) (s4_1 : List UInt8) (k6 : Int) (next12 : (List UInt8 × Int × Unit) -> Prop) (K : List UInt8 -> Int -> Prop) : Prop :=
 (0 : Int) <= i5 ∧ AtN p0 i5.toNat fun x30 =>
 WfT Zy x30 ->
 IfB (decide ((k6 : Int) < (x30.2.length : Int)))
 (IfB (decide ((k6 : Int) > 0))
 (s4_1.length + ([32] : List UInt8).length <= Zi ∧
 Zxu p0 i5 k6 next5 next12 (s4_1 ++ ([32] : List UInt8)) K)
 (Zxu p0 i5 k6 next5 next12 s4_1 K))
 ((0 : Int) <= i5 ∧ AtN p0 i5.toNat fun x55 =>
 WfT Zy x55 ->
 IfB x55.1
 (s4_1.length + ([125] : List UInt8).length <= Zi ∧
 Zvw p0 i5 next5 (s4_1 ++ ([125] : List UInt8)) K)
 (Zvw p0 i5 next5 s4_1 K))
def Ztv (p0 : List (Bool × List UInt32)) (i5 : Int) (next5 : (List UInt8 × Int × Unit) -> Prop) (j1_1 : List UInt8) (K : List UInt8 -> Int -> Prop) : Prop :=
 Zj (List UInt8 × Int × Unit) (j1_1, (0 : Int), ()) fun y next =>
 WfY Zbqc.kinds y ->
 Zbec p0 i5 next5 y.1 y.2.1 next K
def Zuh (p0 : List (Bool × List UInt32)) (i5 : Int) (next5 : (List UInt8 × Int × Unit) -> Prop) (j1 : List UInt8) (K : List UInt8 -> Int -> Prop) : Prop :=
 (0 : Int) <= i5 ∧ AtN p0 i5.toNat fun x22 =>
 WfT Zy x22 ->
 IfB x22.1
 (j1.length + ([123] : List UInt8).length <= Zi ∧
 Ztv p0 i5 next5 (j1 ++ ([123] : List UInt8)) K)
 (Ztv p0 i5 next5 j1 K)
def Zbac (p0 : List (Bool × List UInt32)) (s4 : List UInt8) (i5 : Int) (next5 : (List UInt8 × Int × Unit) -> Prop) (K : List UInt8 -> Int -> Prop) : Prop :=
 IfB (decide ((i5 : Int) < (p0.length : Int)))
 (IfB (decide ((i5 : Int) > 0))
 (s4.length + ([32] : List UInt8).length <= Zi ∧
 Zuh p0 i5 next5 (s4 ++ ([32] : List UInt8)) K)
 (Zuh p0 i5 next5 s4 K))
 (K s4 0)
def Zxj (p0 : List (Bool × List UInt32)) (K : List UInt8 -> Int -> Prop) : Prop :=
 (WfPs Zin (p0, ()) ->
 Zjv p0 (fun x8 =>
 WfPs Zhu (x8, ()) ->
 IfB ((x8 : Int) != 0)
 (K ([] : List UInt8) 2)
 (Zj (List UInt8 × Int × Unit) (([] : List UInt8), (0 : Int), ()) fun y next =>
 WfY Zbmn.kinds y ->
 Zbac p0 y.1 y.2.1 next K)))
noncomputable def Zbxv : Tab := ⟨[(Zht, Zlx), (Ztu, Zbte)], []⟩
abbrev Zbdc (x : PkTs Zrn) (K : PkTs Ztl -> Prop) : Prop := Zxj x.1 (fun r0 r1 => K (r0, r1, ()))
theorem Zccg : Zbdc = fun x K => Zk Tryd.prog Zbxv Zbnq (Zd Tryd.f10) (parS Zrn x) (PRet Tryd.prog Tryd.f10.results.toList fun a st => outP Ztl st a K) := by kernel_rfl
theorem Zcdi : FnQ Tryd.prog Zvl Zrn Ztl Zbdc := (Zbd Zcke (tab := Zbxv) ⟨⟨Ztd, Zcnq, trivial⟩, trivial⟩ rfl).of_eq Zccg
noncomputable def Zbjf : Ct := ctRd Zrn Ztl Zbdc
theorem Zcom : Zz Tryd.prog Zvl Zbjf := Zcv Zcdi
def Zbpv : PPlan := ⟨[], [], [], [], [], []⟩
theorem Zctb : Known Tryd.prog Zyi Tryd.f28 Zbpv.plan (Zd Tryd.f28) := by refine ⟨Tryd.func28, ?_, ?_, ?_, ?_, ?_⟩ <;> kernel_rfl
abbrev Zox : List Pk := [Pk.lst [Kd.bool, Kd.lst [Kd.int .u32]]]
abbrev Zqn : List Pk := [Pk.int .u32, Pk.bool]
def Zkf (p0 : List (Bool × List UInt32)) (j1 : Bool) (K : Int -> Bool -> Prop) : Prop :=
 IfB j1
 (K 0 false)
 ((0 : Int) <= 0 ∧ AtN p0 0 fun x22 =>
 WfT Zy x22 ->
 (0 : Int) <= 0 ∧ AtN x22.2 0 fun x25 =>
 WfT Zhi x25 ->
 K (x25.toNat : Int) true)
def Zpc (p0 : List (Bool × List UInt32)) (K : Int -> Bool -> Prop) : Prop :=
 IfB (((p0.length : Int) : Int) == 0)
 (Zkf p0 true K)
 ((0 : Int) <= 0 ∧ AtN p0 0 fun x9 =>
 WfT Zy x9 ->
 IfB x9.1
 (Zkf p0 true K)
 ((0 : Int) <= 0 ∧ AtN p0 0 fun x15 =>
 WfT Zy x15 ->
 Zkf p0 (((x15.2.length : Int) : Int) == 0) K))
noncomputable def Zbls : Tab := ⟨[], []⟩
abbrev Zbcj (x : PkTs Zox) (K : PkTs Zqn -> Prop) : Prop := Zpc x.1 (fun r0 r1 => K (r0, r1, ()))
theorem Zcsj : Zbcj = fun x K => Zk Tryd.prog Zbls Zbpv (Zd Tryd.f28) (parS Zox x) (PRet Tryd.prog Tryd.f28.results.toList fun a st => outP Zqn st a K) := by kernel_rfl
theorem Zctc : FnQ Tryd.prog Zyi Zox Zqn Zbcj := (Zbd Zctb (tab := Zbls) ⟨trivial, trivial⟩ rfl).of_eq Zcsj
noncomputable def Zbmf : Ct := ctRd Zox Zqn Zbcj
theorem Zcnv : Zz Tryd.prog Zyi Zbmf := Zcv Zctc
def Zboj : PPlan := ⟨[], [], [], [], [], []⟩
theorem Zcib : Known Tryd.prog Zwa Tryd.f29 Zboj.plan (Zd Tryd.f29) := by refine ⟨Tryd.func29, ?_, ?_, ?_, ?_, ?_⟩ <;> kernel_rfl
abbrev Zmf : List Pk := [Pk.lst [Kd.bool, Kd.lst [Kd.int .u32]]]
abbrev Znp : List Pk := [Pk.int .u32, Pk.bool]
def Zya (x12 : Bool × List UInt32) (j2 : Bool) (K : Int -> Bool -> Prop) : Prop :=
 IfB j2
 (K 0 false)
 ((0 : Int) <= (IntKind.wrap .i64 ((x12.2.length : Int) - 1)) ∧ AtN x12.2 (IntKind.wrap .i64 ((x12.2.length : Int) - 1)).toNat fun x28 =>
 WfT Zhi x28 ->
 K (x28.toNat : Int) true)
def Zlt (p0 : List (Bool × List UInt32)) (K : Int -> Bool -> Prop) : Prop :=
 IfB (((p0.length : Int) : Int) == 0)
 (K 0 false)
 ((0 : Int) <= (IntKind.wrap .i64 ((p0.length : Int) - 1)) ∧ AtN p0 (IntKind.wrap .i64 ((p0.length : Int) - 1)).toNat fun x12 =>
 WfT Zy x12 ->
 IfB x12.1
 (Zya x12 true K)
 (Zya x12 (((x12.2.length : Int) : Int) == 0) K))
noncomputable def Zbse : Tab := ⟨[], []⟩
abbrev Zbgu (x : PkTs Zmf) (K : PkTs Znp -> Prop) : Prop := Zlt x.1 (fun r0 r1 => K (r0, r1, ()))
theorem Zcgd : Zbgu = fun x K => Zk Tryd.prog Zbse Zboj (Zd Tryd.f29) (parS Zmf x) (PRet Tryd.prog Tryd.f29.results.toList fun a st => outP Znp st a K) := by kernel_rfl
theorem Zcds : FnQ Tryd.prog Zwa Zmf Znp Zbgu := (Zbd Zcib (tab := Zbse) ⟨trivial, trivial⟩ rfl).of_eq Zcgd
noncomputable def Zble : Ct := ctRd Zmf Znp Zbgu
theorem Zceq : Zz Tryd.prog Zwa Zble := Zcv Zcds
def Zbxr : PPlan := ⟨[], [], [], [], [], []⟩
theorem Zckw : Known Tryd.prog Zsq Tryd.f26 Zbxr.plan (Zd Tryd.f26) := by refine ⟨Tryd.func26, ?_, ?_, ?_, ?_, ?_⟩ <;> kernel_rfl
abbrev Znt : List Pk := [Pk.lst [Kd.int .u8], Pk.lst [Kd.int .u8]]
abbrev Zmx : List Pk := [Pk.bool]
def Zsz (a0 : List UInt8) (b1 : List UInt8) (K : Bool -> Prop) : Prop :=
 K (a0 == b1)
noncomputable def Zbkl : Tab := ⟨[], []⟩
abbrev Zbhe (x : PkTs Znt) (K : PkTs Zmx -> Prop) : Prop := Zsz x.1 x.2.1 (fun r0 => K (r0, ()))
theorem Zcfw : Zbhe = fun x K => Zk Tryd.prog Zbkl Zbxr (Zd Tryd.f26) (parS Znt x) (PRet Tryd.prog Tryd.f26.results.toList fun a st => outP Zmx st a K) := by kernel_rfl
theorem Zcpb : FnQ Tryd.prog Zsq Znt Zmx Zbhe := (Zbd Zckw (tab := Zbkl) ⟨trivial, trivial⟩ rfl).of_eq Zcfw
noncomputable def Zbao : Ct := ctRd Znt Zmx Zbhe
theorem Zbnl : Zz Tryd.prog Zsq Zbao := Zcv Zcpb
def Zbvx : PPlan := ⟨[], [], [], [], [], []⟩
theorem Zcsq : Known Tryd.prog Zwg Tryd.f22 Zbvx.plan (Zd Tryd.f22) := by refine ⟨Tryd.func22, ?_, ?_, ?_, ?_, ?_⟩ <;> kernel_rfl
abbrev Zqz : List Pk := [Pk.lst [Kd.int .u8]]
abbrev Ztg : List Pk := [Pk.own Zja [Kd.int .u8]]
def Zbbu (b0 : List UInt8) (K : List UInt8 -> Prop) : Prop :=
 ([] : List UInt8).length + b0.length <= 140737488355232 ∧
 K (([] : List UInt8) ++ b0)
noncomputable def Zblb : Tab := ⟨[], []⟩
abbrev Zbag (x : PkTs Zqz) (K : PkTs Ztg -> Prop) : Prop := Zbbu x.1 (fun r0 => K (r0, ()))
theorem Zckd : Zbag = fun x K => Zk Tryd.prog Zblb Zbvx (Zd Tryd.f22) (parS Zqz x) (PRet Tryd.prog Tryd.f22.results.toList fun a st => outP Ztg st a K) := by kernel_rfl
theorem Zcjj : FnQ Tryd.prog Zwg Zqz Ztg Zbag := (Zbd Zcsq (tab := Zblb) ⟨trivial, trivial⟩ rfl).of_eq Zckd
noncomputable def Zbpo : Ct := Zcy Zqz Ztg Zbag
theorem Zchw : Zz Tryd.prog Zwg Zbpo := Zdk Zcjj
def Zbrr : PPlan := ⟨[], [], [], [], [], []⟩
theorem Zcpg : Known Tryd.prog Zye Tryd.f27 Zbrr.plan (Zd Tryd.f27) := by refine ⟨Tryd.func27, ?_, ?_, ?_, ?_, ?_⟩ <;> kernel_rfl
abbrev Zpr : List Pk := [Pk.int .i64, Pk.int .i64]
abbrev Zpo : List Pk := [Pk.int .i64]
def Zuu (x0 : Int) (n1 : Int) (K : Int -> Prop) : Prop :=
 IfB (decide ((n1 : Int) < 1))
 (K 0)
 (((IntKind.wrap .u64 n1) : Int) ≠ 0 ∧
 K (IntKind.wrap .i64 (Int.tmod (IntKind.wrap .u64 x0) (IntKind.wrap .u64 n1))))
noncomputable def Zbyf : Tab := ⟨[], []⟩
abbrev Zbco (x : PkTs Zpr) (K : PkTs Zpo -> Prop) : Prop := Zuu x.1 x.2.1 (fun r0 => K (r0, ()))
theorem Zcih : Zbco = fun x K => Zk Tryd.prog Zbyf Zbrr (Zd Tryd.f27) (parS Zpr x) (PRet Tryd.prog Tryd.f27.results.toList fun a st => outP Zpo st a K) := by kernel_rfl
theorem Zciy : FnQ Tryd.prog Zye Zpr Zpo Zbco := (Zbd Zcpg (tab := Zbyf) ⟨trivial, trivial⟩ rfl).of_eq Zcih
noncomputable def Zbpu : Ct := ctRd Zpr Zpo Zbco
theorem Zcmx : Zz Tryd.prog Zye Zbpu := Zcv Zciy
def Zbug : PLoop := ⟨[(3, PK.row Zh [Kd.bool, Kd.lst [Kd.int .u32]]), (4, PK.int .i64)], [0], []⟩
def Zbvj : PPlan := ⟨[(5, [0, 1, 2, 3, 4, 5, 6, 7, 8, 9, 10, 11, 12, 13, 14, 15, 16, 17, 18, 19, 20, 21, 22, 23, 24], [21])], [(3, Zbug)], [], [], [], []⟩
theorem Zcux : Known Tryd.prog Zjo Tryd.f8 Zbvj.plan (Zd Tryd.f8) := by refine ⟨Tryd.func8, ?_, ?_, ?_, ?_, ?_⟩ <;> kernel_rfl
abbrev Zdy : List Pk := [Pk.lst [Kd.bool, Kd.lst [Kd.int .u32]]]
abbrev Zec : List Pk := [Pk.own Zh [Kd.bool, Kd.lst [Kd.int .u32]]]
def Zqb (p0 : List (Bool × List UInt32)) (out3 : List (Bool × List UInt32)) (i4 : Int) (next3 : (List (Bool × List UInt32) × Int × Unit) -> Prop) (j3 : Bool) (K : List (Bool × List UInt32) -> Prop) : Prop :=
 IfB j3
 ((0 : Int) <= i4 ∧ AtN p0 i4.toNat fun x19 =>
 WfT Zy x19 ->
 (0 : Int) <= i4 ∧ AtN p0 i4.toNat fun x25 =>
 WfT Zy x25 ->
 (0 : Int) <= i4 ∧ AtN p0 i4.toNat fun x30 =>
 WfT Zy x30 ->
 (0 : Int) <= (min (x30.2.length : Int) 260) ∧ (min (x30.2.length : Int) 260) <= (x25.2.length : Int) ∧
 ([] : List UInt32).length + (x25.2.take ((min (x30.2.length : Int) 260).toNat)).length <= 35184372088736 ∧
 out3.length + ([(x19.1, (([] : List UInt32) ++ (x25.2.take ((min (x30.2.length : Int) 260).toNat))))] : List (Bool × List UInt32)).length <= 4398046511008 ∧
 next3 ((out3 ++ ([(x19.1, (([] : List UInt32) ++ (x25.2.take ((min (x30.2.length : Int) 260).toNat))))] : List (Bool × List UInt32))), (IntKind.wrap .i64 (i4 + 1)), ()))
 (K out3)
def Zbsc (p0 : List (Bool × List UInt32)) (out3 : List (Bool × List UInt32)) (i4 : Int) (next3 : (List (Bool × List UInt32) × Int × Unit) -> Prop) (K : List (Bool × List UInt32) -> Prop) : Prop :=
 IfB (decide ((i4 : Int) < (p0.length : Int)))
 (Zqb p0 out3 i4 next3 (decide ((i4 : Int) < 20)) K)
 (Zqb p0 out3 i4 next3 false K)
def Zeh (p0 : List (Bool × List UInt32)) (K : List (Bool × List UInt32) -> Prop) : Prop :=
 Zj (List (Bool × List UInt32) × Int × Unit) (([] : List (Bool × List UInt32)), (0 : Int), ()) fun y next =>
 WfY Zbug.kinds y ->
 Zbsc p0 y.1 y.2.1 next K
noncomputable def Zblt : Tab := ⟨[], []⟩
abbrev Zbbs (x : PkTs Zdy) (K : PkTs Zec -> Prop) : Prop := Zeh x.1 (fun r0 => K (r0, ()))
theorem Zcjx : Zbbs = fun x K => Zk Tryd.prog Zblt Zbvj (Zd Tryd.f8) (parS Zdy x) (PRet Tryd.prog Tryd.f8.results.toList fun a st => outP Zec st a K) := by kernel_rfl
theorem Zcgt : FnQ Tryd.prog Zjo Zdy Zec Zbbs := (Zbd Zcux (tab := Zblt) ⟨trivial, trivial⟩ rfl).of_eq Zcjx
noncomputable def Zmu : Ct := Zcy Zdy Zec Zbbs
theorem Zou : Zz Tryd.prog Zjo Zmu := Zdk Zcgt
end Go.Proofs.YtflfamhboalgiaaDoor
