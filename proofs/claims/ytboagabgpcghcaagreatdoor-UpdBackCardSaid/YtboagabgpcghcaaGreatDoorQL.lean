/-
  SOME FUNCTIONS OVER PLAIN DATA: printed by a program of ours over this translation.
-/
import Derived.Test.YtboagabgpcghcaaGreatDoorQA
import Derived.Test.YtboagabgpcghcaaGreatDoorRB
import Derived.Test.YtboagabgpcghcaaGreatDoorED
set_option linter.all false
section
set_option maxRecDepth 100000
set_option maxHeartbeats 4000000
namespace Go.Proofs.YtboagabgpcghcaaGreatDoor
open Go.Sh
abbrev TyL1 := Int × List (Bool × List UInt32) × UInt32 × Bool × UInt32 × Bool × UInt32 × Bool × Bool × UInt32 × UInt32 × List UInt32 × List (Int × List UInt8) × Int
abbrev TyL2 := Int × List (Bool × List UInt32) × UInt32 × Bool × UInt32 × Bool × UInt32 × Bool × Bool × UInt32 × UInt32 × List UInt32 × List (Int × List UInt8)
abbrev Zfg : PPlan := ⟨[], [], [], [], [], []⟩
abbrev Zoe : List Kd := [Kd.int .u32, Kd.int .i64]
theorem Zcjw : Known Tryz.prog Zwg Tryz.f56 Zfg.plan (Zg Tryz.f56) := by refine ⟨Tryz.func56, ?_, ?_, ?_, ?_, ?_⟩ <;> kernel_rfl
abbrev Zrx : List Pk := [Pk.lst [Kd.int .u8]]
abbrev Zpp : List Pk := [Pk.int .i64]
def Zpy (b0 : List UInt8) (K : Int -> Prop) : Prop :=
 (0 : Int) <= 0 ∧ AtN b0 0 fun x4 =>
 WfT Zdw x4 ->
 (0 : Int) <= 8 ∧
 (0 : Int) <= 1 ∧ AtN b0 1 fun x9 =>
 WfT Zdw x9 ->
 K (Zeo .i64 (IntKind.wrap .i64 ((IntKind.wrap .i64 (x4.toNat : Int)) * 256)) (IntKind.wrap .i64 (x9.toNat : Int)))
noncomputable def Zcag : Tab := ⟨[], []⟩
abbrev Zbwq (x : PkTs Zrx) (K : PkTs Zpp -> Prop) : Prop := Zpy x.1 (fun r0 => K (r0, ()))
theorem Zcup : FnQ Tryz.prog Zwg Zrx Zpp Zbwq := (Zq Zcjw (tab := Zcag) ⟨trivial, trivial⟩ rfl).of_eq (by kernel_rfl)
noncomputable def Zbqf : Ct := ctRd Zrx Zpp Zbwq
theorem Zcij : Zk Tryz.prog Zwg Zbqf := Zbw Zcup
theorem Zcfd : Known Tryz.prog Zub Tryz.f26 Zfg.plan (Zg Tryz.f26) := by refine ⟨Tryz.func26, ?_, ?_, ?_, ?_, ?_⟩ <;> kernel_rfl
abbrev Zri : List Pk := [Pk.lst [Kd.int .u8]]
abbrev Zpg : List Pk := [Pk.lst [Kd.int .u8], Pk.lst [Kd.int .u8], Pk.bool]
def Zrq (b0 : List UInt8) (j1 : Bool) (K : List UInt8 -> List UInt8 -> Bool -> Prop) : Prop :=
 IfB j1
 (K ([] : List UInt8) ([] : List UInt8) false)
 ((WfPs Zrx (b0, ()) ->
 Zpy b0 (fun x18 =>
 WfPs Zpp (x18, ()) ->
 (0 : Int) <= (IntKind.wrap .i64 (2 + x18)) ∧ (IntKind.wrap .i64 (2 + x18)) <= (b0.length : Int) ∧
 (0 : Int) <= 2 ∧ 2 <= ((IntKind.wrap .i64 (2 + x18)).toNat : Int) ∧
 (0 : Int) <= (IntKind.wrap .i64 (2 + x18)) ∧ (IntKind.wrap .i64 (2 + x18)) <= (b0.length : Int) ∧
 K ((b0.take ((IntKind.wrap .i64 (2 + x18)).toNat)).drop 2) (b0.drop ((IntKind.wrap .i64 (2 + x18)).toNat)) true)))
def Zjj (b0 : List UInt8) (K : List UInt8 -> List UInt8 -> Bool -> Prop) : Prop :=
 IfB (decide (((b0.length : Int) : Int) < 2))
 (Zrq b0 true K)
 ((WfPs Zrx (b0, ()) ->
 Zpy b0 (fun x11 =>
 WfPs Zpp (x11, ()) ->
 Zrq b0 (decide ((x11 : Int) > (IntKind.wrap .i64 ((b0.length : Int) - 2)))) K)))
noncomputable def Zcgc : Tab := ⟨[(Zwg, Zbqf)], []⟩
abbrev Zbxl (x : PkTs Zri) (K : PkTs Zpg -> Prop) : Prop := Zjj x.1 (fun r0 r1 r2 => K (r0, r1, r2, ()))
theorem Zchq : FnQ Tryz.prog Zub Zri Zpg Zbxl := (Zq Zcfd (tab := Zcgc) ⟨⟨Zcij, trivial⟩, trivial⟩ rfl).of_eq (by kernel_rfl)
noncomputable def Zbrc : Ct := Zcq Zri Zpg Zbxl
theorem Zcoe : Zk Tryz.prog Zub Zbrc := Zcx Zchq
theorem Zcpn : Known Tryz.prog Zwx Tryz.f27 Zfg.plan (Zg Tryz.f27) := by refine ⟨Tryz.func27, ?_, ?_, ?_, ?_, ?_⟩ <;> kernel_rfl
abbrev Zmg : List Pk := [Pk.int .i64]
abbrev Zlg : List Pk := [Pk.agg [Kd.lst [Kd.int .u32, Kd.int .i64], Kd.lst [Kd.int .u32, Kd.int .i64], Kd.int .i64, Kd.lst [Kd.bool, Kd.lst [Kd.int .u32]], Kd.int .u32, Kd.bool, Kd.int .u32, Kd.bool, Kd.int .u32, Kd.bool, Kd.bool, Kd.int .u32, Kd.int .u32, Kd.lst [Kd.int .u32], Kd.lst [Kd.int .i64, Kd.lst [Kd.int .u8]], Kd.int .i64], Pk.agg [Kd.int .i64, Kd.int .i64, Kd.lst [Kd.int .u8]], Pk.bool]
def Zle (sub0 : Int) (K : List (UInt32 × Int) × List (UInt32 × Int) × TyL1 -> (Int × Int × List UInt8) -> Bool -> Prop) : Prop :=
 K (([] : List (UInt32 × Int)), ([] : List (UInt32 × Int)), 0, ([] : List (Bool × List UInt32)), (ofI .u32 0), false, (ofI .u32 0), false, (ofI .u32 0), false, false, (ofI .u32 0), (ofI .u32 0), ([] : List UInt32), ([] : List (Int × List UInt8)), 0) (3, sub0, ([] : List UInt8)) false
noncomputable def Zctz : Tab := ⟨[], []⟩
abbrev Zbpn (x : PkTs Zmg) (K : PkTs Zlg -> Prop) : Prop := Zle x.1 (fun r0 r1 r2 => K (r0, r1, r2, ()))
theorem Zcld : FnQ Tryz.prog Zwx Zmg Zlg Zbpn := (Zq Zcpn (tab := Zctz) ⟨trivial, trivial⟩ rfl).of_eq (by kernel_rfl)
noncomputable def Zbpd : Ct := Zcq Zmg Zlg Zbpn
theorem Zcrw : Zk Tryz.prog Zwx Zbpd := Zcx Zcld
theorem Zcay : Known Tryz.prog Zjs Tryz.f50 Zfg.plan (Zg Tryz.f50) := by refine ⟨Tryz.func50, ?_, ?_, ?_, ?_, ?_⟩ <;> kernel_rfl
abbrev Zul : List Pk := [Pk.int .u32, Pk.int .i64]
abbrev Zzg : List Pk := [Pk.int .u32]
def Zvx (a0 : Int) (n1 : Int) (K : Int -> Prop) : Prop :=
 (0 : Int) <= (IntKind.wrap .i64 (32 - n1)) ∧
 K (Zrf .u32 a0 (IntKind.wrap .u32 (IntKind.wrap .u64 ((IntKind.wrap .u64 (1 * (2 ^ (min ((IntKind.wrap .i64 (32 - n1)) : Int).toNat (IntKind.bits .u64))))) - 1))))
noncomputable def Zcgk : Tab := ⟨[], []⟩
abbrev Zbwj (x : PkTs Zul) (K : PkTs Zzg -> Prop) : Prop := Zvx x.1 x.2.1 (fun r0 => K (r0, ()))
theorem Zbzf : FnQ Tryz.prog Zjs Zul Zzg Zbwj := (Zq Zcay (tab := Zcgk) ⟨trivial, trivial⟩ rfl).of_eq (by kernel_rfl)
noncomputable def Zbob : Ct := ctRd Zul Zzg Zbwj
theorem Zciy : Zk Tryz.prog Zjs Zbob := Zbw Zbzf
theorem Zcir : Known Tryz.prog Zis Tryz.f72 Zfg.plan (Zg Tryz.f72) := by refine ⟨Tryz.func72, ?_, ?_, ?_, ?_, ?_⟩ <;> kernel_rfl
abbrev Zyc : List Pk := [Pk.int .i64]
abbrev Zsb : List Pk := [Pk.int .i64]
def Zvh (n0 : Int) (K : Int -> Prop) : Prop :=
 (8 : Int) ≠ 0 ∧
 K (IntKind.wrap .i64 (Int.tdiv (IntKind.wrap .i64 ((IntKind.wrap .i64 (n0 + 8)) - 1)) 8))
noncomputable def Zcvm : Tab := ⟨[], []⟩
abbrev Zblq (x : PkTs Zyc) (K : PkTs Zsb -> Prop) : Prop := Zvh x.1 (fun r0 => K (r0, ()))
theorem Zcvf : FnQ Tryz.prog Zis Zyc Zsb Zblq := (Zq Zcir (tab := Zcvm) ⟨trivial, trivial⟩ rfl).of_eq (by kernel_rfl)
noncomputable def Zbno : Ct := ctRd Zyc Zsb Zblq
theorem Zccb : Zk Tryz.prog Zis Zbno := Zbw Zcvf
theorem Zcgo : Known Tryz.prog Zbcf Tryz.f62 Zfg.plan (Zg Tryz.f62) := by refine ⟨Tryz.func62, ?_, ?_, ?_, ?_, ?_⟩ <;> kernel_rfl
noncomputable def Zctn : Tab := ⟨[], []⟩
noncomputable def Zbwd : Ct := Zys Tryz.prog Zctn Zfg (Zg Tryz.f62) Tryz.f62.ntmps Tryz.f62.results.toList
theorem Zcok : Zk Tryz.prog Zbcf Zbwd := Zbkw Zcgo ⟨trivial, trivial⟩
def Zrl : PLoop := ⟨[], [2, 3, 4], [(2, [PK.row Zbid [Kd.int .u32, Kd.int .i64]]), (3, [PK.bool]), (4, [PK.row Zbid [Kd.int .u32, Kd.int .i64]])]⟩
def Zcvc : PPlan := ⟨[], [(4000003, Zrl)], [], [], [], []⟩
theorem Zcrg : Known Tryz.prog Zwz Tryz.f29 Zcvc.plan (Zg Tryz.f29) := by refine ⟨Tryz.func29, ?_, ?_, ?_, ?_, ?_⟩ <;> kernel_rfl
abbrev Zqh : List Pk := [Pk.lst [Kd.int .u8]]
abbrev Zqr : List Pk := [Pk.own Zbid [Kd.int .u32, Kd.int .i64], Pk.bool]
def Zbis (c0 : List (UInt32 × Int)) (c0_1 : Bool) (c0_2 : List (UInt32 × Int)) (K : List (UInt32 × Int) -> Bool -> Prop) : Prop :=
 K c0_2 true
def Zbrb (c0_3 : List (UInt32 × Int)) (c0_4 : Bool) (c0_5 : List (UInt32 × Int)) (x9 : UInt32 × Int) (x10 : Bool) (next4000003 : (List (UInt32 × Int) × Bool × List (UInt32 × Int) × Unit) -> Prop) (K : List (UInt32 × Int) -> Bool -> Prop) : Prop :=
 IfB (!x10)
 (K ([] : List (UInt32 × Int)) false)
 (c0_5.length + ([((ofI .u32 (x9.1.toNat : Int)), x9.2)] : List (UInt32 × Int)).length <= 8796093022112 ∧
 next4000003 (c0_3, c0_4, (c0_5 ++ ([((ofI .u32 (x9.1.toNat : Int)), x9.2)] : List (UInt32 × Int))), ()))
def Zoz (b0 : List UInt8) (K : List (UInt32 × Int) -> Bool -> Prop) : Prop :=
 Zhq.pre (b0, ()) ∧
 Zil (fun (y : (List (UInt32 × Int) × Bool × List (UInt32 × Int) × Unit)) => WfY Zrl.kinds y -> Zbis y.1 y.2.1 y.2.2.1 K)
 (fun (y : (List (UInt32 × Int) × Bool × List (UInt32 × Int) × Unit)) (x : ((UInt32 × Int) × Bool × Unit)) (next : (List (UInt32 × Int) × Bool × List (UInt32 × Int) × Unit) -> Prop) => WfY Zrl.kinds y -> WfPs Zhq.ps x -> Zbrb y.1 y.2.1 y.2.2.1 x.1 x.2.1 next K) (Zhq.xs (b0, ())) (([] : List (UInt32 × Int)), false, ([] : List (UInt32 × Int)), ())
noncomputable def Zctd : Tab := ⟨[(Zbcf, Zbwd)], [(Zqg, Zhq)]⟩
abbrev Zbxo (x : PkTs Zqh) (K : PkTs Zqr -> Prop) : Prop := Zoz x.1 (fun r0 r1 => K (r0, r1, ()))
theorem Zcmp : FnQ Tryz.prog Zwz Zqh Zqr Zbxo := (Zq Zcrg (tab := Zctd) ⟨⟨Zcok, trivial⟩, ⟨Zcdy, trivial⟩⟩ rfl).of_eq (by kernel_rfl)
noncomputable def Zbpy : Ct := Zcq Zqh Zqr Zbxo
theorem Zcoc : Zk Tryz.prog Zwz Zbpy := Zcx Zcmp
def Zcnf : PPlan := ⟨[(9, [0, 1, 2, 3, 4], [56]), (18, [0, 1, 2, 3, 4, 5], [91])], [], [], [(9, [4]), (18, [15])], [], []⟩
theorem Zccx : Known Tryz.prog Znm Tryz.f7 Zcnf.plan (Zg Tryz.f7) := by refine ⟨Tryz.func7, ?_, ?_, ?_, ?_, ?_⟩ <;> kernel_rfl
abbrev Zql : List Pk := [Pk.lst [Kd.int .u8], Pk.bool]
abbrev Zoy : List Pk := [Pk.agg [Kd.lst [Kd.int .u32, Kd.int .i64], Kd.lst [Kd.int .u32, Kd.int .i64], Kd.int .i64, Kd.lst [Kd.bool, Kd.lst [Kd.int .u32]], Kd.int .u32, Kd.bool, Kd.int .u32, Kd.bool, Kd.int .u32, Kd.bool, Kd.bool, Kd.int .u32, Kd.int .u32, Kd.lst [Kd.int .u32], Kd.lst [Kd.int .i64, Kd.lst [Kd.int .u8]], Kd.int .i64], Pk.agg [Kd.int .i64, Kd.int .i64, Kd.lst [Kd.int .u8]], Pk.bool]
def Zmt (x49r1 : Int) (j20 : List (UInt32 × Int)) (j21 : Int) (j22 : List (Bool × List UInt32)) (j23 : Int) (j24 : Bool) (j25 : Int) (j26 : Bool) (j27 : Int) (j28 : Bool) (j29 : Bool) (j30 : Int) (j31 : Int) (j32 : List UInt32) (j33 : List (Int × List UInt8)) (j35 : List (UInt32 × Int)) (K : List (UInt32 × Int) × List (UInt32 × Int) × TyL1 -> (Int × Int × List UInt8) -> Bool -> Prop) : Prop :=
 K (j35, j20, j21, j22, (ofI .u32 j23), j24, (ofI .u32 j25), j26, (ofI .u32 j27), j28, j29, (ofI .u32 j30), (ofI .u32 j31), j32, j33, x49r1) (0, 0, ([] : List UInt8)) true
def Zpr (x49r0 : TyL2) (x49r1 : Int) (x61r0 : List (UInt32 × Int)) (x66r0 : List (UInt32 × Int)) (j51 : Bool) (K : List (UInt32 × Int) × List (UInt32 × Int) × TyL1 -> (Int × Int × List UInt8) -> Bool -> Prop) : Prop :=
 IfB j51
 ((WfPs Zmg ((10 : Int), ()) ->
 Zle (10 : Int) (fun x76r0 x76r1 x76r2 =>
 WfPs Zlg (x76r0, x76r1, x76r2, ()) ->
 K (x76r0.1, x76r0.2.1, x76r0.2.2.1, x76r0.2.2.2.1, (ofI .u32 (x76r0.2.2.2.2.1.toNat : Int)), x76r0.2.2.2.2.2.1, (ofI .u32 (x76r0.2.2.2.2.2.2.1.toNat : Int)), x76r0.2.2.2.2.2.2.2.1, (ofI .u32 (x76r0.2.2.2.2.2.2.2.2.1.toNat : Int)), x76r0.2.2.2.2.2.2.2.2.2.1, x76r0.2.2.2.2.2.2.2.2.2.2.1, (ofI .u32 (x76r0.2.2.2.2.2.2.2.2.2.2.2.1.toNat : Int)), (ofI .u32 (x76r0.2.2.2.2.2.2.2.2.2.2.2.2.1.toNat : Int)), x76r0.2.2.2.2.2.2.2.2.2.2.2.2.2.1, x76r0.2.2.2.2.2.2.2.2.2.2.2.2.2.2.1, x76r0.2.2.2.2.2.2.2.2.2.2.2.2.2.2.2) x76r1 x76r2)))
 (IfB ((x49r1 : Int) == 2)
 (x61r0.length + x66r0.length <= 8796093022112 ∧
 Zmt x49r1 ([] : List (UInt32 × Int)) 0 ([] : List (Bool × List UInt32)) 0 false 0 false 0 false false 0 0 ([] : List UInt32) ([] : List (Int × List UInt8)) (x61r0 ++ x66r0) K)
 (IfB (decide (((x66r0.length : Int) : Int) > 0))
 (Zmt x49r1 x66r0 x49r0.1 x49r0.2.1 (x49r0.2.2.1.toNat : Int) x49r0.2.2.2.1 (x49r0.2.2.2.2.1.toNat : Int) x49r0.2.2.2.2.2.1 (x49r0.2.2.2.2.2.2.1.toNat : Int) x49r0.2.2.2.2.2.2.2.1 x49r0.2.2.2.2.2.2.2.2.1 (x49r0.2.2.2.2.2.2.2.2.2.1.toNat : Int) (x49r0.2.2.2.2.2.2.2.2.2.2.1.toNat : Int) x49r0.2.2.2.2.2.2.2.2.2.2.2.1 x49r0.2.2.2.2.2.2.2.2.2.2.2.2 x61r0 K)
 (Zmt x49r1 ([] : List (UInt32 × Int)) 0 ([] : List (Bool × List UInt32)) 0 false 0 false 0 false false 0 0 ([] : List UInt32) ([] : List (Int × List UInt8)) x61r0 K)))
def Zof (b0 : List UInt8) (four1 : Bool) (K : List (UInt32 × Int) × List (UInt32 × Int) × TyL1 -> (Int × Int × List UInt8) -> Bool -> Prop) : Prop :=
 (WfPs Zri (b0, ()) ->
 Zjj b0 (fun x21r0 x21r1 x21r2 =>
 WfPs Zpg (x21r0, x21r1, x21r2, ()) ->
 IfB (!x21r2)
 ((WfPs Zmg ((1 : Int), ()) ->
 Zle (1 : Int) (fun x27r0 x27r1 x27r2 =>
 WfPs Zlg (x27r0, x27r1, x27r2, ()) ->
 K (x27r0.1, x27r0.2.1, x27r0.2.2.1, x27r0.2.2.2.1, (ofI .u32 (x27r0.2.2.2.2.1.toNat : Int)), x27r0.2.2.2.2.2.1, (ofI .u32 (x27r0.2.2.2.2.2.2.1.toNat : Int)), x27r0.2.2.2.2.2.2.2.1, (ofI .u32 (x27r0.2.2.2.2.2.2.2.2.1.toNat : Int)), x27r0.2.2.2.2.2.2.2.2.2.1, x27r0.2.2.2.2.2.2.2.2.2.2.1, (ofI .u32 (x27r0.2.2.2.2.2.2.2.2.2.2.2.1.toNat : Int)), (ofI .u32 (x27r0.2.2.2.2.2.2.2.2.2.2.2.2.1.toNat : Int)), x27r0.2.2.2.2.2.2.2.2.2.2.2.2.2.1, x27r0.2.2.2.2.2.2.2.2.2.2.2.2.2.2.1, x27r0.2.2.2.2.2.2.2.2.2.2.2.2.2.2.2) x27r1 x27r2)))
 ((WfPs Zri (x21r1, ()) ->
 Zjj x21r1 (fun x33r0 x33r1 x33r2 =>
 WfPs Zpg (x33r0, x33r1, x33r2, ()) ->
 IfB (!x33r2)
 ((WfPs Zmg ((1 : Int), ()) ->
 Zle (1 : Int) (fun x39r0 x39r1 x39r2 =>
 WfPs Zlg (x39r0, x39r1, x39r2, ()) ->
 K (x39r0.1, x39r0.2.1, x39r0.2.2.1, x39r0.2.2.2.1, (ofI .u32 (x39r0.2.2.2.2.1.toNat : Int)), x39r0.2.2.2.2.2.1, (ofI .u32 (x39r0.2.2.2.2.2.2.1.toNat : Int)), x39r0.2.2.2.2.2.2.2.1, (ofI .u32 (x39r0.2.2.2.2.2.2.2.2.1.toNat : Int)), x39r0.2.2.2.2.2.2.2.2.2.1, x39r0.2.2.2.2.2.2.2.2.2.2.1, (ofI .u32 (x39r0.2.2.2.2.2.2.2.2.2.2.2.1.toNat : Int)), (ofI .u32 (x39r0.2.2.2.2.2.2.2.2.2.2.2.2.1.toNat : Int)), x39r0.2.2.2.2.2.2.2.2.2.2.2.2.2.1, x39r0.2.2.2.2.2.2.2.2.2.2.2.2.2.2.1, x39r0.2.2.2.2.2.2.2.2.2.2.2.2.2.2.2) x39r1 x39r2)))
 ((WfPs Zbfm (x33r0, four1, (decide (((x33r1.length : Int) : Int) > 0)), ()) ->
 Zbcp x33r0 four1 (decide (((x33r1.length : Int) : Int) > 0)) (fun x49r0 x49r1 x49r2 =>
 WfPs Zbfn (x49r0, x49r1, x49r2, ()) ->
 IfB ((x49r1 : Int) == 3)
 (K (([] : List (UInt32 × Int)), ([] : List (UInt32 × Int)), 0, ([] : List (Bool × List UInt32)), (ofI .u32 0), false, (ofI .u32 0), false, (ofI .u32 0), false, false, (ofI .u32 0), (ofI .u32 0), ([] : List UInt32), ([] : List (Int × List UInt8)), 0) x49r2 false)
 ((WfPs Zqh (x21r0, ()) ->
 Zoz x21r0 (fun x61r0 x61r1 =>
 WfPs Zqr (x61r0, x61r1, ()) ->
 (WfPs Zqh (x33r1, ()) ->
 Zoz x33r1 (fun x66r0 x66r1 =>
 WfPs Zqr (x66r0, x66r1, ()) ->
 IfB (!x61r1)
 (Zpr x49r0 x49r1 x61r0 x66r0 true K)
 (Zpr x49r0 x49r1 x61r0 x66r0 (!x66r1) K))))))))))))))
noncomputable def Zcak : Tab := ⟨[(Zub, Zbrc), (Zwx, Zbpd), (Zlx, Zbxj), (Zwz, Zbpy)], []⟩
abbrev Zbrs (x : PkTs Zql) (K : PkTs Zoy -> Prop) : Prop := Zof x.1 x.2.1 (fun r0 r1 r2 => K (r0, r1, r2, ()))
theorem Zckm : FnQ Tryz.prog Znm Zql Zoy Zbrs := (Zq Zccx (tab := Zcak) ⟨⟨Zcoe, Zcrw, Zcsx, Zcoc, trivial⟩, trivial⟩ rfl).of_eq (by kernel_rfl)
noncomputable def Zbdu : Ct := Zcq Zql Zoy Zbrs
theorem Zbsp : Zk Tryz.prog Znm Zbdu := Zcx Zckm
def Zbsg : PLoop := ⟨[(5, PK.int .i64)], [0, 1], []⟩
def Zcrj : PPlan := ⟨[], [(4, Zbsg)], [], [], [], []⟩
theorem Zcsw : Known Tryz.prog Zxz Tryz.f34 Zcrj.plan (Zg Tryz.f34) := by refine ⟨Tryz.func34, ?_, ?_, ?_, ?_, ?_⟩ <;> kernel_rfl
abbrev Zqw : List Pk := [Pk.lst [Kd.int .u32, Kd.int .i64], Pk.lst [Kd.int .u32, Kd.int .i64]]
abbrev Zom : List Pk := [Pk.bool]
def Zbif (a0 : List (UInt32 × Int)) (b1 : List (UInt32 × Int)) (i5 : Int) (next4 : (Int × Unit) -> Prop) (K : Bool -> Prop) : Prop :=
 IfB (decide ((i5 : Int) < (a0.length : Int)))
 ((0 : Int) <= i5 ∧ AtN a0 i5.toNat fun x19 =>
 WfT Zoe x19 ->
 (0 : Int) <= i5 ∧ AtN b1 i5.toNat fun x23 =>
 WfT Zoe x23 ->
 IfB (!((((x19.1.toNat : Int) : Int) == (x23.1.toNat : Int)) && (((x19.2 : Int) == x23.2) && true)))
 (K false)
 (next4 ((IntKind.wrap .i64 (i5 + 1)), ())))
 (K true)
def Zqy (a0 : List (UInt32 × Int)) (b1 : List (UInt32 × Int)) (K : Bool -> Prop) : Prop :=
 IfB (((a0.length : Int) : Int) != (b1.length : Int))
 (K false)
 (Zm (Int × Unit) ((0 : Int), ()) fun y next =>
 WfY Zbsg.kinds y ->
 Zbif a0 b1 y.1 next K)
noncomputable def Zcnz : Tab := ⟨[], []⟩
abbrev Zbwo (x : PkTs Zqw) (K : PkTs Zom -> Prop) : Prop := Zqy x.1 x.2.1 (fun r0 => K (r0, ()))
theorem Zcsd : FnQ Tryz.prog Zxz Zqw Zom Zbwo := (Zq Zcsw (tab := Zcnz) ⟨trivial, trivial⟩ rfl).of_eq (by kernel_rfl)
noncomputable def Zbuj : Ct := ctRd Zqw Zom Zbwo
theorem Zcja : Zk Tryz.prog Zxz Zbuj := Zbw Zcsd
def Zbkf : PLoop := ⟨[(5, PK.int .i64)], [0, 1], []⟩
def Zbvd : PLoop := ⟨[(6, PK.int .i64)], [0, 1, 5], []⟩
def Zcro : PPlan := ⟨[], [(4, Zbkf), (9, Zbvd)], [], [], [], []⟩
theorem Zcch : Known Tryz.prog Zte Tryz.f70 Zcro.plan (Zg Tryz.f70) := by refine ⟨Tryz.func70, ?_, ?_, ?_, ?_, ?_⟩ <;> kernel_rfl
abbrev Ztv : List Pk := [Pk.lst [Kd.bool, Kd.lst [Kd.int .u32]], Pk.lst [Kd.bool, Kd.lst [Kd.int .u32]]]
abbrev Zvn : List Pk := [Pk.bool]
def Zbfc (a0 : List (Bool × List UInt32)) (b1 : List (Bool × List UInt32)) (i5 : Int) (next4 : (Int × Unit) -> Prop) (k6 : Int) (next9 : (Int × Unit) -> Prop) (K : Bool -> Prop) : Prop :=
 (0 : Int) <= i5 ∧ AtN a0 i5.toNat fun x47 =>
 WfT Zdc x47 ->
 IfB (decide ((k6 : Int) < (x47.2.length : Int)))
 ((0 : Int) <= i5 ∧ AtN a0 i5.toNat fun x56 =>
 WfT Zdc x56 ->
 (0 : Int) <= k6 ∧ AtN x56.2 k6.toNat fun x60 =>
 WfT Zjt x60 ->
 (0 : Int) <= i5 ∧ AtN b1 i5.toNat fun x64 =>
 WfT Zdc x64 ->
 (0 : Int) <= k6 ∧ AtN x64.2 k6.toNat fun x68 =>
 WfT Zjt x68 ->
 IfB (((x60.toNat : Int) : Int) != (x68.toNat : Int))
 (K false)
 (next9 ((IntKind.wrap .i64 (k6 + 1)), ())))
 (next4 ((IntKind.wrap .i64 (i5 + 1)), ()))
def Zbbm (a0 : List (Bool × List UInt32)) (b1 : List (Bool × List UInt32)) (i5 : Int) (next4 : (Int × Unit) -> Prop) (j3 : Bool) (K : Bool -> Prop) : Prop :=
 IfB j3
 (K false)
 (Zm (Int × Unit) ((0 : Int), ()) fun y next =>
 WfY Zbvd.kinds y ->
 Zbfc a0 b1 i5 next4 y.1 next K)
def Zbff (a0 : List (Bool × List UInt32)) (b1 : List (Bool × List UInt32)) (i5 : Int) (next4 : (Int × Unit) -> Prop) (K : Bool -> Prop) : Prop :=
 IfB (decide ((i5 : Int) < (a0.length : Int)))
 ((0 : Int) <= i5 ∧ AtN a0 i5.toNat fun x20 =>
 WfT Zdc x20 ->
 (0 : Int) <= i5 ∧ AtN b1 i5.toNat fun x25 =>
 WfT Zdc x25 ->
 IfB (!(x20.1 == x25.1))
 (Zbbm a0 b1 i5 next4 true K)
 ((0 : Int) <= i5 ∧ AtN a0 i5.toNat fun x32 =>
 WfT Zdc x32 ->
 (0 : Int) <= i5 ∧ AtN b1 i5.toNat fun x38 =>
 WfT Zdc x38 ->
 Zbbm a0 b1 i5 next4 (((x32.2.length : Int) : Int) != (x38.2.length : Int)) K))
 (K true)
def Zxp (a0 : List (Bool × List UInt32)) (b1 : List (Bool × List UInt32)) (K : Bool -> Prop) : Prop :=
 IfB (((a0.length : Int) : Int) != (b1.length : Int))
 (K false)
 (Zm (Int × Unit) ((0 : Int), ()) fun y next =>
 WfY Zbkf.kinds y ->
 Zbff a0 b1 y.1 next K)
noncomputable def Zcac : Tab := ⟨[], []⟩
abbrev Zbpq (x : PkTs Ztv) (K : PkTs Zvn -> Prop) : Prop := Zxp x.1 x.2.1 (fun r0 => K (r0, ()))
theorem Zcqv : FnQ Tryz.prog Zte Ztv Zvn Zbpq := (Zq Zcch (tab := Zcac) ⟨trivial, trivial⟩ rfl).of_eq (by kernel_rfl)
noncomputable def Zbtm : Ct := ctRd Ztv Zvn Zbpq
theorem Zcia : Zk Tryz.prog Zte Zbtm := Zbw Zcqv
def Zbns : PLoop := ⟨[(5, PK.int .i64)], [2, 3], []⟩
def Zbop : PLoop := ⟨[(6, PK.int .i64)], [2, 3], []⟩
def Zcgs : PPlan := ⟨[], [(4, Zbns), (9, Zbop)], [], [], [], []⟩
theorem Zcpt : Known Tryz.prog Zzt Tryz.f35 Zcgs.plan (Zg Tryz.f35) := by refine ⟨Tryz.func35, ?_, ?_, ?_, ?_, ?_⟩ <;> kernel_rfl
abbrev Ztm : List Pk := [Pk.agg [Kd.int .i64, Kd.lst [Kd.bool, Kd.lst [Kd.int .u32]], Kd.int .u32, Kd.bool, Kd.int .u32, Kd.bool, Kd.int .u32, Kd.bool, Kd.bool, Kd.int .u32, Kd.int .u32, Kd.lst [Kd.int .u32], Kd.lst [Kd.int .i64, Kd.lst [Kd.int .u8]]], Pk.agg [Kd.int .i64, Kd.lst [Kd.bool, Kd.lst [Kd.int .u32]], Kd.int .u32, Kd.bool, Kd.int .u32, Kd.bool, Kd.int .u32, Kd.bool, Kd.bool, Kd.int .u32, Kd.int .u32, Kd.lst [Kd.int .u32], Kd.lst [Kd.int .i64, Kd.lst [Kd.int .u8]]]]
abbrev Zbac : List Pk := [Pk.bool]
def Zvp (a0 : TyL2) (b1 : TyL2) (i6 : Int) (next9 : (Int × Unit) -> Prop) (j27 : Bool) (K : Bool -> Prop) : Prop :=
 IfB j27
 (K false)
 (next9 ((IntKind.wrap .i64 (i6 + 1)), ()))
def Zbdy (a0 : TyL2) (b1 : TyL2) (i6 : Int) (next9 : (Int × Unit) -> Prop) (K : Bool -> Prop) : Prop :=
 IfB (decide ((i6 : Int) < (a0.2.2.2.2.2.2.2.2.2.2.2.2.length : Int)))
 ((0 : Int) <= i6 ∧ AtN a0.2.2.2.2.2.2.2.2.2.2.2.2 i6.toNat fun x141 =>
 WfT Zir x141 ->
 (0 : Int) <= i6 ∧ AtN b1.2.2.2.2.2.2.2.2.2.2.2.2 i6.toNat fun x147 =>
 WfT Zir x147 ->
 IfB ((x141.1 : Int) != x147.1)
 (Zvp a0 b1 i6 next9 true K)
 ((0 : Int) <= i6 ∧ AtN a0.2.2.2.2.2.2.2.2.2.2.2.2 i6.toNat fun x155 =>
 WfT Zir x155 ->
 (0 : Int) <= i6 ∧ AtN b1.2.2.2.2.2.2.2.2.2.2.2.2 i6.toNat fun x162 =>
 WfT Zir x162 ->
 Zvp a0 b1 i6 next9 (!(x155.2 == x162.2)) K))
 (K true)
def Zbhg (a0 : TyL2) (b1 : TyL2) (i5 : Int) (next4 : (Int × Unit) -> Prop) (K : Bool -> Prop) : Prop :=
 IfB (decide ((i5 : Int) < (a0.2.2.2.2.2.2.2.2.2.2.2.1.length : Int)))
 ((0 : Int) <= i5 ∧ AtN a0.2.2.2.2.2.2.2.2.2.2.2.1 i5.toNat fun x123 =>
 WfT Zjt x123 ->
 (0 : Int) <= i5 ∧ AtN b1.2.2.2.2.2.2.2.2.2.2.2.1 i5.toNat fun x128 =>
 WfT Zjt x128 ->
 IfB (((x123.toNat : Int) : Int) != (x128.toNat : Int))
 (K false)
 (next4 ((IntKind.wrap .i64 (i5 + 1)), ())))
 (Zm (Int × Unit) ((0 : Int), ()) fun y next =>
 WfY Zbop.kinds y ->
 Zbdy a0 b1 y.1 next K)
def Zz (a0 : TyL2) (b1 : TyL2) (j26 : Bool) (K : Bool -> Prop) : Prop :=
 IfB j26
 (K false)
 (Zm (Int × Unit) ((0 : Int), ()) fun y next =>
 WfY Zbns.kinds y ->
 Zbhg a0 b1 y.1 next K)
def Zwp (a0 : TyL2) (b1 : TyL2) (K : Bool -> Prop) : Prop :=
 IfB ((a0.1 : Int) != b1.1)
 (Zz a0 b1 true K)
 ((WfPs Ztv (a0.2.1, b1.2.1, ()) ->
 Zxp a0.2.1 b1.2.1 (fun x17 =>
 WfPs Zvn (x17, ()) ->
 IfB (!x17)
 (Zz a0 b1 true K)
 (IfB (((a0.2.2.1.toNat : Int) : Int) != (b1.2.2.1.toNat : Int))
 (Zz a0 b1 true K)
 (IfB (!(a0.2.2.2.1 == b1.2.2.2.1))
 (Zz a0 b1 true K)
 (IfB a0.2.2.2.1
 (IfB (((a0.2.2.2.2.1.toNat : Int) : Int) != (b1.2.2.2.2.1.toNat : Int))
 (Zz a0 b1 true K)
 (IfB (!(a0.2.2.2.2.2.1 == b1.2.2.2.2.2.1))
 (Zz a0 b1 true K)
 (IfB a0.2.2.2.2.2.1
 (IfB (((a0.2.2.2.2.2.2.1.toNat : Int) : Int) != (b1.2.2.2.2.2.2.1.toNat : Int))
 (Zz a0 b1 true K)
 (IfB (!(a0.2.2.2.2.2.2.2.1 == b1.2.2.2.2.2.2.2.1))
 (Zz a0 b1 true K)
 (IfB (!(a0.2.2.2.2.2.2.2.2.1 == b1.2.2.2.2.2.2.2.2.1))
 (Zz a0 b1 true K)
 (IfB a0.2.2.2.2.2.2.2.2.1
 (IfB (((a0.2.2.2.2.2.2.2.2.2.1.toNat : Int) : Int) != (b1.2.2.2.2.2.2.2.2.2.1.toNat : Int))
 (Zz a0 b1 true K)
 (IfB (((a0.2.2.2.2.2.2.2.2.2.2.1.toNat : Int) : Int) != (b1.2.2.2.2.2.2.2.2.2.2.1.toNat : Int))
 (Zz a0 b1 true K)
 (IfB (((a0.2.2.2.2.2.2.2.2.2.2.2.1.length : Int) : Int) != (b1.2.2.2.2.2.2.2.2.2.2.2.1.length : Int))
 (Zz a0 b1 true K)
 (Zz a0 b1 (((a0.2.2.2.2.2.2.2.2.2.2.2.2.length : Int) : Int) != (b1.2.2.2.2.2.2.2.2.2.2.2.2.length : Int)) K))))
 (IfB (((a0.2.2.2.2.2.2.2.2.2.2.2.1.length : Int) : Int) != (b1.2.2.2.2.2.2.2.2.2.2.2.1.length : Int))
 (Zz a0 b1 true K)
 (Zz a0 b1 (((a0.2.2.2.2.2.2.2.2.2.2.2.2.length : Int) : Int) != (b1.2.2.2.2.2.2.2.2.2.2.2.2.length : Int)) K))))))
 (IfB (!(a0.2.2.2.2.2.2.2.1 == b1.2.2.2.2.2.2.2.1))
 (Zz a0 b1 true K)
 (IfB (!(a0.2.2.2.2.2.2.2.2.1 == b1.2.2.2.2.2.2.2.2.1))
 (Zz a0 b1 true K)
 (IfB a0.2.2.2.2.2.2.2.2.1
 (IfB (((a0.2.2.2.2.2.2.2.2.2.1.toNat : Int) : Int) != (b1.2.2.2.2.2.2.2.2.2.1.toNat : Int))
 (Zz a0 b1 true K)
 (IfB (((a0.2.2.2.2.2.2.2.2.2.2.1.toNat : Int) : Int) != (b1.2.2.2.2.2.2.2.2.2.2.1.toNat : Int))
 (Zz a0 b1 true K)
 (IfB (((a0.2.2.2.2.2.2.2.2.2.2.2.1.length : Int) : Int) != (b1.2.2.2.2.2.2.2.2.2.2.2.1.length : Int))
 (Zz a0 b1 true K)
 (Zz a0 b1 (((a0.2.2.2.2.2.2.2.2.2.2.2.2.length : Int) : Int) != (b1.2.2.2.2.2.2.2.2.2.2.2.2.length : Int)) K))))
 (IfB (((a0.2.2.2.2.2.2.2.2.2.2.2.1.length : Int) : Int) != (b1.2.2.2.2.2.2.2.2.2.2.2.1.length : Int))
 (Zz a0 b1 true K)
 (Zz a0 b1 (((a0.2.2.2.2.2.2.2.2.2.2.2.2.length : Int) : Int) != (b1.2.2.2.2.2.2.2.2.2.2.2.2.length : Int)) K))))))))
 (IfB (!(a0.2.2.2.2.2.1 == b1.2.2.2.2.2.1))
 (Zz a0 b1 true K)
 (IfB a0.2.2.2.2.2.1
 (IfB (((a0.2.2.2.2.2.2.1.toNat : Int) : Int) != (b1.2.2.2.2.2.2.1.toNat : Int))
 (Zz a0 b1 true K)
 (IfB (!(a0.2.2.2.2.2.2.2.1 == b1.2.2.2.2.2.2.2.1))
 (Zz a0 b1 true K)
 (IfB (!(a0.2.2.2.2.2.2.2.2.1 == b1.2.2.2.2.2.2.2.2.1))
 (Zz a0 b1 true K)
 (IfB a0.2.2.2.2.2.2.2.2.1
 (IfB (((a0.2.2.2.2.2.2.2.2.2.1.toNat : Int) : Int) != (b1.2.2.2.2.2.2.2.2.2.1.toNat : Int))
 (Zz a0 b1 true K)
 (IfB (((a0.2.2.2.2.2.2.2.2.2.2.1.toNat : Int) : Int) != (b1.2.2.2.2.2.2.2.2.2.2.1.toNat : Int))
 (Zz a0 b1 true K)
 (IfB (((a0.2.2.2.2.2.2.2.2.2.2.2.1.length : Int) : Int) != (b1.2.2.2.2.2.2.2.2.2.2.2.1.length : Int))
 (Zz a0 b1 true K)
 (Zz a0 b1 (((a0.2.2.2.2.2.2.2.2.2.2.2.2.length : Int) : Int) != (b1.2.2.2.2.2.2.2.2.2.2.2.2.length : Int)) K))))
 (IfB (((a0.2.2.2.2.2.2.2.2.2.2.2.1.length : Int) : Int) != (b1.2.2.2.2.2.2.2.2.2.2.2.1.length : Int))
 (Zz a0 b1 true K)
 (Zz a0 b1 (((a0.2.2.2.2.2.2.2.2.2.2.2.2.length : Int) : Int) != (b1.2.2.2.2.2.2.2.2.2.2.2.2.length : Int)) K))))))
 (IfB (!(a0.2.2.2.2.2.2.2.1 == b1.2.2.2.2.2.2.2.1))
 (Zz a0 b1 true K)
 (IfB (!(a0.2.2.2.2.2.2.2.2.1 == b1.2.2.2.2.2.2.2.2.1))
 (Zz a0 b1 true K)
 (IfB a0.2.2.2.2.2.2.2.2.1
 (IfB (((a0.2.2.2.2.2.2.2.2.2.1.toNat : Int) : Int) != (b1.2.2.2.2.2.2.2.2.2.1.toNat : Int))
 (Zz a0 b1 true K)
 (IfB (((a0.2.2.2.2.2.2.2.2.2.2.1.toNat : Int) : Int) != (b1.2.2.2.2.2.2.2.2.2.2.1.toNat : Int))
 (Zz a0 b1 true K)
 (IfB (((a0.2.2.2.2.2.2.2.2.2.2.2.1.length : Int) : Int) != (b1.2.2.2.2.2.2.2.2.2.2.2.1.length : Int))
 (Zz a0 b1 true K)
 (Zz a0 b1 (((a0.2.2.2.2.2.2.2.2.2.2.2.2.length : Int) : Int) != (b1.2.2.2.2.2.2.2.2.2.2.2.2.length : Int)) K))))
 (IfB (((a0.2.2.2.2.2.2.2.2.2.2.2.1.length : Int) : Int) != (b1.2.2.2.2.2.2.2.2.2.2.2.1.length : Int))
 (Zz a0 b1 true K)
 (Zz a0 b1 (((a0.2.2.2.2.2.2.2.2.2.2.2.2.length : Int) : Int) != (b1.2.2.2.2.2.2.2.2.2.2.2.2.length : Int)) K)))))))))))))
noncomputable def Zcgq : Tab := ⟨[(Zte, Zbtm)], []⟩
abbrev Zblg (x : PkTs Ztm) (K : PkTs Zbac -> Prop) : Prop := Zwp x.1 x.2.1 (fun r0 => K (r0, ()))
theorem Zcgh : FnQ Tryz.prog Zzt Ztm Zbac Zblg := (Zq Zcpt (tab := Zcgq) ⟨⟨Zcia, trivial⟩, trivial⟩ rfl).of_eq (by kernel_rfl)
noncomputable def Zbwm : Ct := ctRd Ztm Zbac Zblg
theorem Zcdw : Zk Tryz.prog Zzt Zbwm := Zbw Zcgh
theorem Zccu : Known Tryz.prog Zvw Tryz.f10 Zfg.plan (Zg Tryz.f10) := by refine ⟨Tryz.func10, ?_, ?_, ?_, ?_, ?_⟩ <;> kernel_rfl
abbrev Zwq : List Pk := [Pk.agg [Kd.lst [Kd.int .u32, Kd.int .i64], Kd.lst [Kd.int .u32, Kd.int .i64], Kd.int .i64, Kd.lst [Kd.bool, Kd.lst [Kd.int .u32]], Kd.int .u32, Kd.bool, Kd.int .u32, Kd.bool, Kd.int .u32, Kd.bool, Kd.bool, Kd.int .u32, Kd.int .u32, Kd.lst [Kd.int .u32], Kd.lst [Kd.int .i64, Kd.lst [Kd.int .u8]], Kd.int .i64], Pk.agg [Kd.lst [Kd.int .u32, Kd.int .i64], Kd.lst [Kd.int .u32, Kd.int .i64], Kd.int .i64, Kd.lst [Kd.bool, Kd.lst [Kd.int .u32]], Kd.int .u32, Kd.bool, Kd.int .u32, Kd.bool, Kd.int .u32, Kd.bool, Kd.bool, Kd.int .u32, Kd.int .u32, Kd.lst [Kd.int .u32], Kd.lst [Kd.int .i64, Kd.lst [Kd.int .u8]], Kd.int .i64]]
abbrev Zsv : List Pk := [Pk.bool]
def Zzu (a0 : List (UInt32 × Int) × List (UInt32 × Int) × TyL1) (b1 : List (UInt32 × Int) × List (UInt32 × Int) × TyL1) (K : Bool -> Prop) : Prop :=
 (WfPs Zqw (a0.1, b1.1, ()) ->
 Zqy a0.1 b1.1 (fun x9 =>
 WfPs Zom (x9, ()) ->
 IfB x9
 ((WfPs Zqw (a0.2.1, b1.2.1, ()) ->
 Zqy a0.2.1 b1.2.1 (fun x15 =>
 WfPs Zom (x15, ()) ->
 IfB x15
 ((WfPs Ztm (((a0.2.2.1, a0.2.2.2.1, (ofI .u32 (a0.2.2.2.2.1.toNat : Int)), a0.2.2.2.2.2.1, (ofI .u32 (a0.2.2.2.2.2.2.1.toNat : Int)), a0.2.2.2.2.2.2.2.1, (ofI .u32 (a0.2.2.2.2.2.2.2.2.1.toNat : Int)), a0.2.2.2.2.2.2.2.2.2.1, a0.2.2.2.2.2.2.2.2.2.2.1, (ofI .u32 (a0.2.2.2.2.2.2.2.2.2.2.2.1.toNat : Int)), (ofI .u32 (a0.2.2.2.2.2.2.2.2.2.2.2.2.1.toNat : Int)), a0.2.2.2.2.2.2.2.2.2.2.2.2.2.1, a0.2.2.2.2.2.2.2.2.2.2.2.2.2.2.1) : TyL2), ((b1.2.2.1, b1.2.2.2.1, (ofI .u32 (b1.2.2.2.2.1.toNat : Int)), b1.2.2.2.2.2.1, (ofI .u32 (b1.2.2.2.2.2.2.1.toNat : Int)), b1.2.2.2.2.2.2.2.1, (ofI .u32 (b1.2.2.2.2.2.2.2.2.1.toNat : Int)), b1.2.2.2.2.2.2.2.2.2.1, b1.2.2.2.2.2.2.2.2.2.2.1, (ofI .u32 (b1.2.2.2.2.2.2.2.2.2.2.2.1.toNat : Int)), (ofI .u32 (b1.2.2.2.2.2.2.2.2.2.2.2.2.1.toNat : Int)), b1.2.2.2.2.2.2.2.2.2.2.2.2.2.1, b1.2.2.2.2.2.2.2.2.2.2.2.2.2.2.1) : TyL2), ()) ->
 Zwp ((a0.2.2.1, a0.2.2.2.1, (ofI .u32 (a0.2.2.2.2.1.toNat : Int)), a0.2.2.2.2.2.1, (ofI .u32 (a0.2.2.2.2.2.2.1.toNat : Int)), a0.2.2.2.2.2.2.2.1, (ofI .u32 (a0.2.2.2.2.2.2.2.2.1.toNat : Int)), a0.2.2.2.2.2.2.2.2.2.1, a0.2.2.2.2.2.2.2.2.2.2.1, (ofI .u32 (a0.2.2.2.2.2.2.2.2.2.2.2.1.toNat : Int)), (ofI .u32 (a0.2.2.2.2.2.2.2.2.2.2.2.2.1.toNat : Int)), a0.2.2.2.2.2.2.2.2.2.2.2.2.2.1, a0.2.2.2.2.2.2.2.2.2.2.2.2.2.2.1) : TyL2) ((b1.2.2.1, b1.2.2.2.1, (ofI .u32 (b1.2.2.2.2.1.toNat : Int)), b1.2.2.2.2.2.1, (ofI .u32 (b1.2.2.2.2.2.2.1.toNat : Int)), b1.2.2.2.2.2.2.2.1, (ofI .u32 (b1.2.2.2.2.2.2.2.2.1.toNat : Int)), b1.2.2.2.2.2.2.2.2.2.1, b1.2.2.2.2.2.2.2.2.2.2.1, (ofI .u32 (b1.2.2.2.2.2.2.2.2.2.2.2.1.toNat : Int)), (ofI .u32 (b1.2.2.2.2.2.2.2.2.2.2.2.2.1.toNat : Int)), b1.2.2.2.2.2.2.2.2.2.2.2.2.2.1, b1.2.2.2.2.2.2.2.2.2.2.2.2.2.2.1) : TyL2) (fun x22 =>
 WfPs Zbac (x22, ()) ->
 IfB x22
 (K ((a0.2.2.2.2.2.2.2.2.2.2.2.2.2.2.2 : Int) == b1.2.2.2.2.2.2.2.2.2.2.2.2.2.2.2))
 (K false))))
 (K false))))
 (K false)))
noncomputable def Zchs : Tab := ⟨[(Zxz, Zbuj), (Zzt, Zbwm)], []⟩
abbrev Zbjl (x : PkTs Zwq) (K : PkTs Zsv -> Prop) : Prop := Zzu x.1 x.2.1 (fun r0 => K (r0, ()))
theorem Zcqr : FnQ Tryz.prog Zvw Zwq Zsv Zbjl := (Zq Zccu (tab := Zchs) ⟨⟨Zcja, Zcdw, trivial⟩, trivial⟩ rfl).of_eq (by kernel_rfl)
noncomputable def Zbts : Ct := ctRd Zwq Zsv Zbjl
theorem Zcfn : Zk Tryz.prog Zvw Zbts := Zbw Zcqr
theorem Zcpz : Known Tryz.prog Zbbk Tryz.f11 Zfg.plan (Zg Tryz.f11) := by refine ⟨Tryz.func11, ?_, ?_, ?_, ?_, ?_⟩ <;> kernel_rfl
abbrev Zxk : List Pk := [Pk.lst [Kd.int .u8], Pk.lst [Kd.int .u8]]
abbrev Zxd : List Pk := [Pk.bool]
def Zbcb (a0 : List UInt8) (b1 : List UInt8) (K : Bool -> Prop) : Prop :=
 K (a0 == b1)
noncomputable def Zcnp : Tab := ⟨[], []⟩
abbrev Zbjv (x : PkTs Zxk) (K : PkTs Zxd -> Prop) : Prop := Zbcb x.1 x.2.1 (fun r0 => K (r0, ()))
theorem Zcmw : FnQ Tryz.prog Zbbk Zxk Zxd Zbjv := (Zq Zcpz (tab := Zcnp) ⟨trivial, trivial⟩ rfl).of_eq (by kernel_rfl)
noncomputable def Zbnu : Ct := ctRd Zxk Zxd Zbjv
theorem Zcmj : Zk Tryz.prog Zbbk Zbnu := Zbw Zcmw
def Zcew : PPlan := ⟨[(1, [0, 1, 2, 3, 4, 5, 6, 7, 8, 9, 10, 11, 12, 14, 15, 13, 16, 17, 18], [18])], [], [], [], [], []⟩
theorem Zbzo : Known Tryz.prog Zrt Tryz.f20 Zcew.plan (Zg Tryz.f20) := by refine ⟨Tryz.func20, ?_, ?_, ?_, ?_, ?_⟩ <;> kernel_rfl
abbrev Zrn : List Pk := [Pk.agg [Kd.int .u32, Kd.int .i64]]
abbrev Zpx : List Pk := [Pk.bool]
def Zns (p0 : UInt32 × Int) (K : Bool -> Prop) : Prop :=
 IfB (decide ((p0.2 : Int) ≥ 0))
 (IfB (decide ((p0.2 : Int) <= 32))
 ((WfPs Zul ((p0.1.toNat : Int), p0.2, ()) ->
 Zvx (p0.1.toNat : Int) p0.2 (fun x16 =>
 WfPs Zzg (x16, ()) ->
 K ((x16 : Int) == (p0.1.toNat : Int)))))
 (K false))
 (K false)
noncomputable def Zcfk : Tab := ⟨[(Zjs, Zbob)], []⟩
abbrev Zbsy (x : PkTs Zrn) (K : PkTs Zpx -> Prop) : Prop := Zns x.1 (fun r0 => K (r0, ()))
theorem Zbzz : FnQ Tryz.prog Zrt Zrn Zpx Zbsy := (Zq Zbzo (tab := Zcfk) ⟨⟨Zciy, trivial⟩, trivial⟩ rfl).of_eq (by kernel_rfl)
noncomputable def Zbgh : Ct := ctRd Zrn Zpx Zbsy
theorem Zblv : Zk Tryz.prog Zrt Zbgh := Zbw Zbzz
def Zblt : PLoop := ⟨[(4, PK.row Zee [Kd.int .u8]), (10, PK.int .i64)], [8, 9], []⟩
def Zbum : PLoop := ⟨[(4, PK.row Zee [Kd.int .u8]), (26, PK.int .i64)], [6, 8, 9, 10, 25], []⟩
def Zcgn : PPlan := ⟨[], [(3, Zblt), (9, Zbum)], [], [], [], []⟩
theorem Zcqh : Known Tryz.prog Zuo Tryz.f37 Zcgn.plan (Zg Tryz.f37) := by refine ⟨Tryz.func37, ?_, ?_, ?_, ?_, ?_⟩ <;> kernel_rfl
abbrev Zqf : List Pk := [Pk.lst [Kd.int .u32, Kd.int .i64]]
abbrev Zqz : List Pk := [Pk.own Zee [Kd.int .u8], Pk.bool]
def Zbdj (x12 : UInt32 × Int) (l0 : List (UInt32 × Int)) (x10 : Int) (x25 : Int) (next3 : (List UInt8 × Int × Unit) -> Prop) (b4_1 : List UInt8) (x26 : Int) (next9 : (List UInt8 × Int × Unit) -> Prop) (K : List UInt8 -> Bool -> Prop) : Prop :=
 IfB (decide ((x26 : Int) < x25))
 ((0 : Int) <= (IntKind.wrap .i64 (24 - (IntKind.wrap .i64 (8 * x26)))) ∧
 b4_1.length + ([(ofI .u8 (IntKind.wrap .u8 (Int.fdiv (x12.1.toNat : Int) (2 ^ (min ((IntKind.wrap .i64 (24 - (IntKind.wrap .i64 (8 * x26)))) : Int).toNat (IntKind.bits .u32))))))] : List UInt8).length <= 140737488355232 ∧
 next9 ((b4_1 ++ ([(ofI .u8 (IntKind.wrap .u8 (Int.fdiv (x12.1.toNat : Int) (2 ^ (min ((IntKind.wrap .i64 (24 - (IntKind.wrap .i64 (8 * x26)))) : Int).toNat (IntKind.bits .u32))))))] : List UInt8)), (IntKind.wrap .i64 (x26 + 1)), ()))
 (next3 (b4_1, (IntKind.wrap .i64 (x10 + 1)), ()))
def Zbcx (l0 : List (UInt32 × Int)) (b4 : List UInt8) (x10 : Int) (next3 : (List UInt8 × Int × Unit) -> Prop) (K : List UInt8 -> Bool -> Prop) : Prop :=
 IfB (decide ((x10 : Int) < (l0.length : Int)))
 ((0 : Int) <= x10 ∧ AtN l0 x10.toNat fun x12 =>
 WfT Zoe x12 ->
 (WfPs Zrn ((((ofI .u32 (x12.1.toNat : Int)), x12.2) : UInt32 × Int), ()) ->
 Zns (((ofI .u32 (x12.1.toNat : Int)), x12.2) : UInt32 × Int) (fun x15 =>
 WfPs Zpx (x15, ()) ->
 IfB (!x15)
 (K ([] : List UInt8) false)
 (b4.length + ([(ofI .u8 (IntKind.wrap .u8 x12.2))] : List UInt8).length <= 140737488355232 ∧
 (WfPs Zyc (x12.2, ()) ->
 Zvh x12.2 (fun x25 =>
 WfPs Zsb (x25, ()) ->
 Zm (List UInt8 × Int × Unit) ((b4 ++ ([(ofI .u8 (IntKind.wrap .u8 x12.2))] : List UInt8)), (0 : Int), ()) fun y next =>
 WfY Zbum.kinds y ->
 Zbdj x12 l0 x10 x25 next3 y.1 y.2.1 next K))))))
 (K b4 true)
def Zoq (l0 : List (UInt32 × Int)) (K : List UInt8 -> Bool -> Prop) : Prop :=
 Zm (List UInt8 × Int × Unit) (([] : List UInt8), (0 : Int), ()) fun y next =>
 WfY Zblt.kinds y ->
 Zbcx l0 y.1 y.2.1 next K
noncomputable def Zcgz : Tab := ⟨[(Zrt, Zbgh), (Zis, Zbno)], []⟩
abbrev Zbjq (x : PkTs Zqf) (K : PkTs Zqz -> Prop) : Prop := Zoq x.1 (fun r0 r1 => K (r0, r1, ()))
theorem Zclb : FnQ Tryz.prog Zuo Zqf Zqz Zbjq := (Zq Zcqh (tab := Zcgz) ⟨⟨Zblv, Zccb, trivial⟩, trivial⟩ rfl).of_eq (by kernel_rfl)
noncomputable def Zbks : Ct := Zcq Zqf Zqz Zbjq
theorem Zcli : Zk Tryz.prog Zuo Zbks := Zcx Zclb
theorem Zcgt : Known Tryz.prog Zbae Tryz.f40 Zfg.plan (Zg Tryz.f40) := by refine ⟨Tryz.func40, ?_, ?_, ?_, ?_, ?_⟩ <;> kernel_rfl
abbrev Znw : List Pk := [Pk.lst [Kd.int .u8]]
abbrev Znj : List Pk := [Pk.own Zee [Kd.int .u8]]
def Zoc (b0 : List UInt8) (K : List UInt8 -> Prop) : Prop :=
 (0 : Int) <= 8 ∧
 (WfPs Znc (([([(ofI .u8 (IntKind.wrap .u8 (Int.fdiv (b0.length : Int) 256))), (ofI .u8 (IntKind.wrap .u8 (b0.length : Int)))] : List UInt8), b0] : List (List UInt8)), ()) ->
 Zmq ([([(ofI .u8 (IntKind.wrap .u8 (Int.fdiv (b0.length : Int) 256))), (ofI .u8 (IntKind.wrap .u8 (b0.length : Int)))] : List UInt8), b0] : List (List UInt8)) (fun x13 =>
 WfPs Zms (x13, ()) ->
 K x13))
noncomputable def Zcrr : Tab := ⟨[(Zmv, Zbag)], []⟩
abbrev Zbxh (x : PkTs Znw) (K : PkTs Znj -> Prop) : Prop := Zoc x.1 (fun r0 => K (r0, ()))
theorem Zccg : FnQ Tryz.prog Zbae Znw Znj Zbxh := (Zq Zcgt (tab := Zcrr) ⟨⟨Zben, trivial⟩, trivial⟩ rfl).of_eq (by kernel_rfl)
noncomputable def Zbve : Ct := Zcq Znw Znj Zbxh
theorem Zcnj : Zk Tryz.prog Zbae Zbve := Zcx Zccg
theorem Zcvk : Known Tryz.prog Zqx Tryz.f14 Zfg.plan (Zg Tryz.f14) := by refine ⟨Tryz.func14, ?_, ?_, ?_, ?_, ?_⟩ <;> kernel_rfl
abbrev Zok : List Pk := [Pk.agg [Kd.lst [Kd.int .u32, Kd.int .i64], Kd.lst [Kd.int .u32, Kd.int .i64], Kd.int .i64, Kd.lst [Kd.bool, Kd.lst [Kd.int .u32]], Kd.int .u32, Kd.bool, Kd.int .u32, Kd.bool, Kd.int .u32, Kd.bool, Kd.bool, Kd.int .u32, Kd.int .u32, Kd.lst [Kd.int .u32], Kd.lst [Kd.int .i64, Kd.lst [Kd.int .u8]], Kd.int .i64], Pk.bool]
abbrev Zox : List Pk := [Pk.own Zee [Kd.int .u8], Pk.int .i64]
def Zvo (x16r0 : List UInt8) (x22r0 : List UInt8) (j2 : List UInt8) (K : List UInt8 -> Int -> Prop) : Prop :=
 IfB (decide (((IntKind.wrap .i64 ((IntKind.wrap .i64 ((IntKind.wrap .i64 ((x16r0.length : Int) + (j2.length : Int))) + (x22r0.length : Int))) + 4)) : Int) > 4077))
 (K ([] : List UInt8) 3)
 ((WfPs Znw (x16r0, ()) ->
 Zoc x16r0 (fun x57 =>
 WfPs Znj (x57, ()) ->
 (WfPs Znw (j2, ()) ->
 Zoc j2 (fun x59 =>
 WfPs Znj (x59, ()) ->
 (WfPs Znc (([x57, x59, x22r0] : List (List UInt8)), ()) ->
 Zmq ([x57, x59, x22r0] : List (List UInt8)) (fun x62 =>
 WfPs Zms (x62, ()) ->
 K x62 0)))))))
def Zwi (four1 : Bool) (u0 : List (UInt32 × Int) × List (UInt32 × Int) × TyL1) (x16r0 : List UInt8) (x22r0 : List UInt8) (j19 : Bool) (K : List UInt8 -> Int -> Prop) : Prop :=
 IfB j19
 (K ([] : List UInt8) 2)
 (IfB (decide (((u0.2.1.length : Int) : Int) > 0))
 ((WfPs Zbap (((u0.2.2.1, u0.2.2.2.1, (ofI .u32 (u0.2.2.2.2.1.toNat : Int)), u0.2.2.2.2.2.1, (ofI .u32 (u0.2.2.2.2.2.2.1.toNat : Int)), u0.2.2.2.2.2.2.2.1, (ofI .u32 (u0.2.2.2.2.2.2.2.2.1.toNat : Int)), u0.2.2.2.2.2.2.2.2.2.1, u0.2.2.2.2.2.2.2.2.2.2.1, (ofI .u32 (u0.2.2.2.2.2.2.2.2.2.2.2.1.toNat : Int)), (ofI .u32 (u0.2.2.2.2.2.2.2.2.2.2.2.2.1.toNat : Int)), u0.2.2.2.2.2.2.2.2.2.2.2.2.2.1, u0.2.2.2.2.2.2.2.2.2.2.2.2.2.2.1) : TyL2), four1, ()) ->
 Zzy ((u0.2.2.1, u0.2.2.2.1, (ofI .u32 (u0.2.2.2.2.1.toNat : Int)), u0.2.2.2.2.2.1, (ofI .u32 (u0.2.2.2.2.2.2.1.toNat : Int)), u0.2.2.2.2.2.2.2.1, (ofI .u32 (u0.2.2.2.2.2.2.2.2.1.toNat : Int)), u0.2.2.2.2.2.2.2.2.2.1, u0.2.2.2.2.2.2.2.2.2.2.1, (ofI .u32 (u0.2.2.2.2.2.2.2.2.2.2.2.1.toNat : Int)), (ofI .u32 (u0.2.2.2.2.2.2.2.2.2.2.2.2.1.toNat : Int)), u0.2.2.2.2.2.2.2.2.2.2.2.2.2.1, u0.2.2.2.2.2.2.2.2.2.2.2.2.2.2.1) : TyL2) four1 (fun x39r0 x39r1 =>
 WfPs Ztp (x39r0, x39r1, ()) ->
 IfB ((x39r1 : Int) != 0)
 (K ([] : List UInt8) x39r1)
 (Zvo x16r0 x22r0 x39r0 K))))
 (Zvo x16r0 x22r0 ([] : List UInt8) K))
def Zrb (u0 : List (UInt32 × Int) × List (UInt32 × Int) × TyL1) (four1 : Bool) (K : List UInt8 -> Int -> Prop) : Prop :=
 (WfPs Zqf (u0.1, ()) ->
 Zoq u0.1 (fun x16r0 x16r1 =>
 WfPs Zqz (x16r0, x16r1, ()) ->
 (WfPs Zqf (u0.2.1, ()) ->
 Zoq u0.2.1 (fun x22r0 x22r1 =>
 WfPs Zqz (x22r0, x22r1, ()) ->
 IfB (!x16r1)
 (Zwi four1 u0 x16r0 x22r0 true K)
 (Zwi four1 u0 x16r0 x22r0 (!x22r1) K)))))
noncomputable def Zccz : Tab := ⟨[(Zuo, Zbks), (Ztd, Zbox), (Zmv, Zbag), (Zbae, Zbve)], []⟩
abbrev Zbuc (x : PkTs Zok) (K : PkTs Zox -> Prop) : Prop := Zrb x.1 x.2.1 (fun r0 r1 => K (r0, r1, ()))
theorem Zchv : FnQ Tryz.prog Zqx Zok Zox Zbuc := (Zq Zcvk (tab := Zccz) ⟨⟨Zcli, Zcbb, Zben, Zcnj, trivial⟩, trivial⟩ rfl).of_eq (by kernel_rfl)
noncomputable def Zbes : Ct := Zcq Zok Zox Zbuc
theorem Zbod : Zk Tryz.prog Zqx Zbes := Zcx Zchv
def Zbun : PLoop := ⟨[(3, PK.row Zcju [Kd.str]), (8, PK.int .i64)], [1], []⟩
def Zcdv : PPlan := ⟨[(9, [0, 3, 4, 1, 2, 5, 6, 7], [28])], [(5, Zbun)], [], [], [], []⟩
theorem Zcci : Known Tryz.prog Zzx Tryz.f24 Zcdv.plan (Zg Tryz.f24) := by refine ⟨Tryz.func24, ?_, ?_, ?_, ?_, ?_⟩ <;> kernel_rfl
abbrev Zwh : List Pk := [Pk.agg [Kd.int .u32, Kd.int .i64]]
abbrev Zzh : List Pk := [Pk.str]
def Zbgx (p0 : UInt32 × Int) (l3 : List (List UInt8)) (x8 : Int) (next5 : (List (List UInt8) × Int × Unit) -> Prop) (K : List UInt8 -> Prop) : Prop :=
 IfB (decide ((x8 : Int) < 4))
 ((0 : Int) <= (IntKind.wrap .i64 (24 - (IntKind.wrap .i64 (8 * x8)))) ∧
 (WfPs Zur ((IntKind.wrap .i64 (Zfb .u32 (Int.fdiv (p0.1.toNat : Int) (2 ^ (min ((IntKind.wrap .i64 (24 - (IntKind.wrap .i64 (8 * x8)))) : Int).toNat (IntKind.bits .u32)))) 255)), ()) ->
 Zlc (IntKind.wrap .i64 (Zfb .u32 (Int.fdiv (p0.1.toNat : Int) (2 ^ (min ((IntKind.wrap .i64 (24 - (IntKind.wrap .i64 (8 * x8)))) : Int).toNat (IntKind.bits .u32)))) 255)) (fun x20 =>
 WfPs Zup (x20, ()) ->
 l3.length + ([x20] : List (List UInt8)).length <= 8796093022112 ∧
 next5 ((l3 ++ ([x20] : List (List UInt8))), (IntKind.wrap .i64 (x8 + 1)), ()))))
 ((WfPs Zbgz (l3, ([46] : List UInt8), ()) ->
 Zya l3 ([46] : List UInt8) (fun x25 =>
 WfPs Zbcr (x25, ()) ->
 x25.length + ([47] : List UInt8).length <= Zp ∧
 (WfPs Zur (p0.2, ()) ->
 Zlc p0.2 (fun x29 =>
 WfPs Zup (x29, ()) ->
 (x25 ++ ([47] : List UInt8)).length + x29.length <= Zp ∧
 K ((x25 ++ ([47] : List UInt8)) ++ x29))))))
def Zsg (p0 : UInt32 × Int) (K : List UInt8 -> Prop) : Prop :=
 (WfPs Zrn ((((ofI .u32 (p0.1.toNat : Int)), p0.2) : UInt32 × Int), ()) ->
 Zns (((ofI .u32 (p0.1.toNat : Int)), p0.2) : UInt32 × Int) (fun x6 =>
 WfPs Zpx (x6, ()) ->
 IfB (!x6)
 (K ([] : List UInt8))
 (Zm (List (List UInt8) × Int × Unit) (([] : List (List UInt8)), (0 : Int), ()) fun y next =>
 WfY Zbun.kinds y ->
 Zbgx p0 y.1 y.2.1 next K)))
noncomputable def Zcmk : Tab := ⟨[(Zrt, Zbgh), (Zbex, Zbrh), (Zzk, Zbwy)], []⟩
abbrev Zbxs (x : PkTs Zwh) (K : PkTs Zzh -> Prop) : Prop := Zsg x.1 (fun r0 => K (r0, ()))
theorem Zcim : FnQ Tryz.prog Zzx Zwh Zzh Zbxs := (Zq Zcci (tab := Zcmk) ⟨⟨Zblv, Zcdp, Zbzm, trivial⟩, trivial⟩ rfl).of_eq (by kernel_rfl)
noncomputable def Zbka : Ct := ctRd Zwh Zzh Zbxs
theorem Zcdc : Zk Tryz.prog Zzx Zbka := Zbw Zcim
theorem Zcej : Known Tryz.prog Zsm Tryz.f12 Zfg.plan (Zg Tryz.f12) := by refine ⟨Tryz.func12, ?_, ?_, ?_, ?_, ?_⟩ <;> kernel_rfl
abbrev Zyw : List Pk := []
abbrev Zva : List Pk := [Pk.bool]
def Zxx  (K : Bool -> Prop) : Prop :=
 (WfPs Zok (((([((ofI .u32 167772160), 8)] : List (UInt32 × Int)), ([] : List (UInt32 × Int)), 0, ([] : List (Bool × List UInt32)), (ofI .u32 0), false, (ofI .u32 0), false, (ofI .u32 0), false, false, (ofI .u32 0), (ofI .u32 0), ([] : List UInt32), ([] : List (Int × List UInt8)), 0) : List (UInt32 × Int) × List (UInt32 × Int) × TyL1), false, ()) ->
 Zrb ((([((ofI .u32 167772160), 8)] : List (UInt32 × Int)), ([] : List (UInt32 × Int)), 0, ([] : List (Bool × List UInt32)), (ofI .u32 0), false, (ofI .u32 0), false, (ofI .u32 0), false, false, (ofI .u32 0), (ofI .u32 0), ([] : List UInt32), ([] : List (Int × List UInt8)), 0) : List (UInt32 × Int) × List (UInt32 × Int) × TyL1) false (fun x10r0 x10r1 =>
 WfPs Zox (x10r0, x10r1, ()) ->
 (WfPs Zql (x10r0, false, ()) ->
 Zof x10r0 false (fun x15r0 x15r1 x15r2 =>
 WfPs Zoy (x15r0, x15r1, x15r2, ()) ->
 IfB ((x10r1 : Int) == 0)
 ((WfPs Zxk (x10r0, ([(ofI .u8 0), (ofI .u8 2), (ofI .u8 8), (ofI .u8 10), (ofI .u8 0), (ofI .u8 0)] : List UInt8), ()) ->
 Zbcb x10r0 ([(ofI .u8 0), (ofI .u8 2), (ofI .u8 8), (ofI .u8 10), (ofI .u8 0), (ofI .u8 0)] : List UInt8) (fun x24 =>
 WfPs Zxd (x24, ()) ->
 IfB x24
 (IfB x15r2
 (IfB (((x15r0.1.length : Int) : Int) == 1)
 ((0 : Int) <= 0 ∧ AtN x15r0.1 0 fun x38 =>
 WfT Zoe x38 ->
 IfB ((((x38.1.toNat : Int) : Int) == 167772160) && (((x38.2 : Int) == 8) && true))
 ((0 : Int) <= 0 ∧ AtN x15r0.1 0 fun x46 =>
 WfT Zoe x46 ->
 (WfPs Zwh ((((ofI .u32 (x46.1.toNat : Int)), x46.2) : UInt32 × Int), ()) ->
 Zsg (((ofI .u32 (x46.1.toNat : Int)), x46.2) : UInt32 × Int) (fun x48 =>
 WfPs Zzh (x48, ()) ->
 K (x48 == ([49, 48, 46, 48, 46, 48, 46, 48, 47, 56] : List UInt8)))))
 (K false))
 (K false))
 (K false))
 (K false))))
 (K false)))))
noncomputable def Zcbn : Tab := ⟨[(Znm, Zbdu), (Zbbk, Zbnu), (Zqx, Zbes), (Zzx, Zbka)], []⟩
abbrev Zbvp (x : PkTs Zyw) (K : PkTs Zva -> Prop) : Prop := Zxx  (fun r0 => K (r0, ()))
theorem Zcsq : FnQ Tryz.prog Zsm Zyw Zva Zbvp := (Zq Zcej (tab := Zcbn) ⟨⟨Zbsp, Zcmj, Zbod, Zcdc, trivial⟩, trivial⟩ rfl).of_eq (by kernel_rfl)
noncomputable def Zblj : Ct := ctRd Zyw Zva Zbvp
theorem Zcae : Zk Tryz.prog Zsm Zblj := Zbw Zcsq
def Zbqi : PLoop := ⟨[(3, PK.row Ziw [Kd.bool, Kd.lst [Kd.int .u32]]), (4, PK.int .i64)], [0], []⟩
def Zcvg : PPlan := ⟨[(5, [0, 1, 2, 3, 4, 5, 6, 7, 8, 9, 10, 11, 12, 13, 14, 15, 16], [17])], [(3, Zbqi)], [], [], [], []⟩
theorem Zcbu : Known Tryz.prog Zbaj Tryz.f71 Zcvg.plan (Zg Tryz.f71) := by refine ⟨Tryz.func71, ?_, ?_, ?_, ?_, ?_⟩ <;> kernel_rfl
abbrev Zsd : List Pk := [Pk.lst [Kd.bool, Kd.lst [Kd.int .u32]]]
abbrev Zui : List Pk := [Pk.own Ziw [Kd.bool, Kd.lst [Kd.int .u32]]]
def Zbfo (p0 : List (Bool × List UInt32)) (out3 : List (Bool × List UInt32)) (i4 : Int) (next3 : (List (Bool × List UInt32) × Int × Unit) -> Prop) (K : List (Bool × List UInt32) -> Prop) : Prop :=
 IfB (decide ((i4 : Int) < (p0.length : Int)))
 ((0 : Int) <= i4 ∧ AtN p0 i4.toNat fun x15 =>
 WfT Zdc x15 ->
 (0 : Int) <= i4 ∧ AtN p0 i4.toNat fun x21 =>
 WfT Zdc x21 ->
 ([] : List UInt32).length + x21.2.length <= 35184372088736 ∧
 out3.length + ([(x15.1, (([] : List UInt32) ++ x21.2))] : List (Bool × List UInt32)).length <= 4398046511008 ∧
 next3 ((out3 ++ ([(x15.1, (([] : List UInt32) ++ x21.2))] : List (Bool × List UInt32))), (IntKind.wrap .i64 (i4 + 1)), ()))
 (K out3)
def Ztr (p0 : List (Bool × List UInt32)) (K : List (Bool × List UInt32) -> Prop) : Prop :=
 Zm (List (Bool × List UInt32) × Int × Unit) (([] : List (Bool × List UInt32)), (0 : Int), ()) fun y next =>
 WfY Zbqi.kinds y ->
 Zbfo p0 y.1 y.2.1 next K
noncomputable def Zcuz : Tab := ⟨[], []⟩
abbrev Zbso (x : PkTs Zsd) (K : PkTs Zui -> Prop) : Prop := Ztr x.1 (fun r0 => K (r0, ()))
theorem Zcur : FnQ Tryz.prog Zbaj Zsd Zui Zbso := (Zq Zcbu (tab := Zcuz) ⟨trivial, trivial⟩ rfl).of_eq (by kernel_rfl)
noncomputable def Zbou : Ct := Zcq Zsd Zui Zbso
theorem Zcmq : Zk Tryz.prog Zbaj Zbou := Zcx Zcur
def Zbra : PLoop := ⟨[(4, PK.int .i64)], [1, 2, 3], [(3, [PK.int .i64, PK.row Ziw [Kd.bool, Kd.lst [Kd.int .u32]], PK.int .u32, PK.bool, PK.int .u32, PK.bool, PK.int .u32, PK.bool, PK.bool, PK.int .u32, PK.int .u32, PK.row Zdh [Kd.int .u32], PK.row Zch [Kd.int .i64, Kd.lst [Kd.int .u8]]])]⟩
def Zcud : PPlan := ⟨[(8, [0, 1, 2, 3, 4, 5, 6, 7, 8, 9, 10, 11, 12, 13, 14, 15, 16, 17, 18, 19, 20], [25, 27, 31])], [(6, Zbra)], [], [], [], []⟩
theorem Zcbz : Known Tryz.prog Ztx Tryz.f36 Zcud.plan (Zg Tryz.f36) := by refine ⟨Tryz.func36, ?_, ?_, ?_, ?_, ?_⟩ <;> kernel_rfl
abbrev Zuy : List Pk := [Pk.agg [Kd.int .i64, Kd.lst [Kd.bool, Kd.lst [Kd.int .u32]], Kd.int .u32, Kd.bool, Kd.int .u32, Kd.bool, Kd.int .u32, Kd.bool, Kd.bool, Kd.int .u32, Kd.int .u32, Kd.lst [Kd.int .u32], Kd.lst [Kd.int .i64, Kd.lst [Kd.int .u8]]]]
abbrev Zyo : List Pk := [Pk.agg [Kd.int .i64, Kd.lst [Kd.bool, Kd.lst [Kd.int .u32]], Kd.int .u32, Kd.bool, Kd.int .u32, Kd.bool, Kd.int .u32, Kd.bool, Kd.bool, Kd.int .u32, Kd.int .u32, Kd.lst [Kd.int .u32], Kd.lst [Kd.int .i64, Kd.lst [Kd.int .u8]]]]
def Zbey (a0 : TyL2) (i4 : Int) (c0 : Int) (c1 : List (Bool × List UInt32)) (c2 : Int) (c3 : Bool) (c4 : Int) (c5 : Bool) (c6 : Int) (c7 : Bool) (c8 : Bool) (c9 : Int) (c10 : Int) (c11 : List UInt32) (c12 : List (Int × List UInt8)) (next6 : (Int × Int × List (Bool × List UInt32) × Int × Bool × Int × Bool × Int × Bool × Bool × Int × Int × List UInt32 × List (Int × List UInt8) × Unit) -> Prop) (K : (TyL2) -> Prop) : Prop :=
 IfB (decide ((i4 : Int) < (a0.2.2.2.2.2.2.2.2.2.2.2.2.length : Int)))
 ((0 : Int) <= i4 ∧ AtN a0.2.2.2.2.2.2.2.2.2.2.2.2 i4.toNat fun x29 =>
 WfT Zir x29 ->
 (0 : Int) <= i4 ∧ AtN a0.2.2.2.2.2.2.2.2.2.2.2.2 i4.toNat fun x36 =>
 WfT Zir x36 ->
 ([] : List UInt8).length + x36.2.length <= 140737488355232 ∧
 c12.length + ([(x29.1, (([] : List UInt8) ++ x36.2))] : List (Int × List UInt8)).length <= 4398046511008 ∧
 next6 ((IntKind.wrap .i64 (i4 + 1)), c0, c1, c2, c3, c4, c5, c6, c7, c8, c9, c10, c11, (c12 ++ ([(x29.1, (([] : List UInt8) ++ x36.2))] : List (Int × List UInt8))), ()))
 (K (c0, c1, (ofI .u32 c2), c3, (ofI .u32 c4), c5, (ofI .u32 c6), c7, c8, (ofI .u32 c9), (ofI .u32 c10), c11, c12))
def Zsj (a0 : TyL2) (K : (TyL2) -> Prop) : Prop :=
 (WfPs Zsd (a0.2.1, ()) ->
 Ztr a0.2.1 (fun x8 =>
 WfPs Zui (x8, ()) ->
 ([] : List UInt32).length + a0.2.2.2.2.2.2.2.2.2.2.2.1.length <= 35184372088736 ∧
 Zm (Int × Int × List (Bool × List UInt32) × Int × Bool × Int × Bool × Int × Bool × Bool × Int × Int × List UInt32 × List (Int × List UInt8) × Unit) ((0 : Int), a0.1, x8, (a0.2.2.1.toNat : Int), a0.2.2.2.1, (a0.2.2.2.2.1.toNat : Int), a0.2.2.2.2.2.1, (a0.2.2.2.2.2.2.1.toNat : Int), a0.2.2.2.2.2.2.2.1, a0.2.2.2.2.2.2.2.2.1, (a0.2.2.2.2.2.2.2.2.2.1.toNat : Int), (a0.2.2.2.2.2.2.2.2.2.2.1.toNat : Int), (([] : List UInt32) ++ a0.2.2.2.2.2.2.2.2.2.2.2.1), ([] : List (Int × List UInt8)), ()) fun y next =>
 WfY Zbra.kinds y ->
 Zbey a0 y.1 y.2.1 y.2.2.1 y.2.2.2.1 y.2.2.2.2.1 y.2.2.2.2.2.1 y.2.2.2.2.2.2.1 y.2.2.2.2.2.2.2.1 y.2.2.2.2.2.2.2.2.1 y.2.2.2.2.2.2.2.2.2.1 y.2.2.2.2.2.2.2.2.2.2.1 y.2.2.2.2.2.2.2.2.2.2.2.1 y.2.2.2.2.2.2.2.2.2.2.2.2.1 y.2.2.2.2.2.2.2.2.2.2.2.2.2.1 next K))
noncomputable def Zcdb : Tab := ⟨[(Zbaj, Zbou)], []⟩
abbrev Zbui (x : PkTs Zuy) (K : PkTs Zyo -> Prop) : Prop := Zsj x.1 (fun r0 => K (r0, ()))
theorem Zctr : FnQ Tryz.prog Ztx Zuy Zyo Zbui := (Zq Zcbz (tab := Zcdb) ⟨⟨Zcmq, trivial⟩, trivial⟩ rfl).of_eq (by kernel_rfl)
noncomputable def Zbqg : Ct := Zcq Zuy Zyo Zbui
theorem Zcop : Zk Tryz.prog Ztx Zbqg := Zcx Zctr
theorem Zcva : Known Tryz.prog Zws Tryz.f13 Zfg.plan (Zg Tryz.f13) := by refine ⟨Tryz.func13, ?_, ?_, ?_, ?_, ?_⟩ <;> kernel_rfl
abbrev Zuf : List Pk := [Pk.agg [Kd.lst [Kd.int .u32, Kd.int .i64], Kd.lst [Kd.int .u32, Kd.int .i64], Kd.int .i64, Kd.lst [Kd.bool, Kd.lst [Kd.int .u32]], Kd.int .u32, Kd.bool, Kd.int .u32, Kd.bool, Kd.int .u32, Kd.bool, Kd.bool, Kd.int .u32, Kd.int .u32, Kd.lst [Kd.int .u32], Kd.lst [Kd.int .i64, Kd.lst [Kd.int .u8]], Kd.int .i64]]
abbrev Zvf : List Pk := [Pk.agg [Kd.lst [Kd.int .u32, Kd.int .i64], Kd.lst [Kd.int .u32, Kd.int .i64], Kd.int .i64, Kd.lst [Kd.bool, Kd.lst [Kd.int .u32]], Kd.int .u32, Kd.bool, Kd.int .u32, Kd.bool, Kd.int .u32, Kd.bool, Kd.bool, Kd.int .u32, Kd.int .u32, Kd.lst [Kd.int .u32], Kd.lst [Kd.int .i64, Kd.lst [Kd.int .u8]], Kd.int .i64]]
def Zza (u0 : List (UInt32 × Int) × List (UInt32 × Int) × TyL1) (K : List (UInt32 × Int) × List (UInt32 × Int) × TyL1 -> Prop) : Prop :=
 (0 : Int) <= (min (u0.1.length : Int) 40) ∧ (min (u0.1.length : Int) 40) <= (u0.1.length : Int) ∧
 ([] : List (UInt32 × Int)).length + (u0.1.take ((min (u0.1.length : Int) 40).toNat)).length <= 8796093022112 ∧
 (0 : Int) <= (min (u0.2.1.length : Int) 40) ∧ (min (u0.2.1.length : Int) 40) <= (u0.2.1.length : Int) ∧
 ([] : List (UInt32 × Int)).length + (u0.2.1.take ((min (u0.2.1.length : Int) 40).toNat)).length <= 8796093022112 ∧
 (0 : Int) <= (min (u0.2.2.2.1.length : Int) 8) ∧ (min (u0.2.2.2.1.length : Int) 8) <= (u0.2.2.2.1.length : Int) ∧
 (0 : Int) <= (min (u0.2.2.2.2.2.2.2.2.2.2.2.2.2.1.length : Int) 40) ∧ (min (u0.2.2.2.2.2.2.2.2.2.2.2.2.2.1.length : Int) 40) <= (u0.2.2.2.2.2.2.2.2.2.2.2.2.2.1.length : Int) ∧
 (0 : Int) <= (min (u0.2.2.2.2.2.2.2.2.2.2.2.2.2.2.1.length : Int) 10) ∧ (min (u0.2.2.2.2.2.2.2.2.2.2.2.2.2.2.1.length : Int) 10) <= (u0.2.2.2.2.2.2.2.2.2.2.2.2.2.2.1.length : Int) ∧
 (WfPs Zuy (((u0.2.2.1, (u0.2.2.2.1.take ((min (u0.2.2.2.1.length : Int) 8).toNat)), (ofI .u32 (u0.2.2.2.2.1.toNat : Int)), u0.2.2.2.2.2.1, (ofI .u32 (u0.2.2.2.2.2.2.1.toNat : Int)), u0.2.2.2.2.2.2.2.1, (ofI .u32 (u0.2.2.2.2.2.2.2.2.1.toNat : Int)), u0.2.2.2.2.2.2.2.2.2.1, u0.2.2.2.2.2.2.2.2.2.2.1, (ofI .u32 (u0.2.2.2.2.2.2.2.2.2.2.2.1.toNat : Int)), (ofI .u32 (u0.2.2.2.2.2.2.2.2.2.2.2.2.1.toNat : Int)), (u0.2.2.2.2.2.2.2.2.2.2.2.2.2.1.take ((min (u0.2.2.2.2.2.2.2.2.2.2.2.2.2.1.length : Int) 40).toNat)), (u0.2.2.2.2.2.2.2.2.2.2.2.2.2.2.1.take ((min (u0.2.2.2.2.2.2.2.2.2.2.2.2.2.2.1.length : Int) 10).toNat))) : TyL2), ()) ->
 Zsj ((u0.2.2.1, (u0.2.2.2.1.take ((min (u0.2.2.2.1.length : Int) 8).toNat)), (ofI .u32 (u0.2.2.2.2.1.toNat : Int)), u0.2.2.2.2.2.1, (ofI .u32 (u0.2.2.2.2.2.2.1.toNat : Int)), u0.2.2.2.2.2.2.2.1, (ofI .u32 (u0.2.2.2.2.2.2.2.2.1.toNat : Int)), u0.2.2.2.2.2.2.2.2.2.1, u0.2.2.2.2.2.2.2.2.2.2.1, (ofI .u32 (u0.2.2.2.2.2.2.2.2.2.2.2.1.toNat : Int)), (ofI .u32 (u0.2.2.2.2.2.2.2.2.2.2.2.2.1.toNat : Int)), (u0.2.2.2.2.2.2.2.2.2.2.2.2.2.1.take ((min (u0.2.2.2.2.2.2.2.2.2.2.2.2.2.1.length : Int) 40).toNat)), (u0.2.2.2.2.2.2.2.2.2.2.2.2.2.2.1.take ((min (u0.2.2.2.2.2.2.2.2.2.2.2.2.2.2.1.length : Int) 10).toNat))) : TyL2) (fun x58 =>
 WfPs Zyo (x58, ()) ->
 K ((([] : List (UInt32 × Int)) ++ (u0.1.take ((min (u0.1.length : Int) 40).toNat))), (([] : List (UInt32 × Int)) ++ (u0.2.1.take ((min (u0.2.1.length : Int) 40).toNat))), x58.1, x58.2.1, (ofI .u32 (x58.2.2.1.toNat : Int)), x58.2.2.2.1, (ofI .u32 (x58.2.2.2.2.1.toNat : Int)), x58.2.2.2.2.2.1, (ofI .u32 (x58.2.2.2.2.2.2.1.toNat : Int)), x58.2.2.2.2.2.2.2.1, x58.2.2.2.2.2.2.2.2.1, (ofI .u32 (x58.2.2.2.2.2.2.2.2.2.1.toNat : Int)), (ofI .u32 (x58.2.2.2.2.2.2.2.2.2.2.1.toNat : Int)), x58.2.2.2.2.2.2.2.2.2.2.2.1, x58.2.2.2.2.2.2.2.2.2.2.2.2, u0.2.2.2.2.2.2.2.2.2.2.2.2.2.2.2)))
noncomputable def Zcsc : Tab := ⟨[(Ztx, Zbqg)], []⟩
abbrev Zbnm (x : PkTs Zuf) (K : PkTs Zvf -> Prop) : Prop := Zza x.1 (fun r0 => K (r0, ()))
theorem Zcix : FnQ Tryz.prog Zws Zuf Zvf Zbnm := (Zq Zcva (tab := Zcsc) ⟨⟨Zcop, trivial⟩, trivial⟩ rfl).of_eq (by kernel_rfl)
noncomputable def Zbte : Ct := Zcq Zuf Zvf Zbnm
theorem Zcdx : Zk Tryz.prog Zws Zbte := Zcx Zcix
theorem Zcnn : Known Tryz.prog Zblo Tryz.f4 Zfg.plan (Zg Tryz.f4) := by refine ⟨Tryz.func4, ?_, ?_, ?_, ?_, ?_⟩ <;> kernel_rfl
abbrev Zbir : List Pk := [Pk.agg [Kd.lst [Kd.int .u32, Kd.int .i64], Kd.lst [Kd.int .u32, Kd.int .i64], Kd.int .i64, Kd.lst [Kd.bool, Kd.lst [Kd.int .u32]], Kd.int .u32, Kd.bool, Kd.int .u32, Kd.bool, Kd.int .u32, Kd.bool, Kd.bool, Kd.int .u32, Kd.int .u32, Kd.lst [Kd.int .u32], Kd.lst [Kd.int .i64, Kd.lst [Kd.int .u8]], Kd.int .i64], Pk.bool]
abbrev Zboz : List Pk := [Pk.bool]
def Zvc (x13 : List (UInt32 × Int) × List (UInt32 × Int) × TyL1) (x39r0 : List (UInt32 × Int) × List (UInt32 × Int) × TyL1) (x39r2 : Bool) (j2 : Int) (j3 : List (Bool × List UInt32)) (j4 : Int) (j5 : Bool) (j6 : Int) (j8 : Int) (j9 : Bool) (j10 : Bool) (j11_1 : Int) (j12 : Int) (j13 : List UInt32) (j14 : List (Int × List UInt8)) (K : Bool -> Prop) : Prop :=
 IfB x39r2
 ((WfPs Zwq (((x13.1, x13.2.1, j2, j3, (ofI .u32 j4), j5, (ofI .u32 j6), false, (ofI .u32 j8), j9, j10, (ofI .u32 j11_1), (ofI .u32 j12), j13, j14, 0) : List (UInt32 × Int) × List (UInt32 × Int) × TyL1), ((x39r0.1, x39r0.2.1, x39r0.2.2.1, x39r0.2.2.2.1, (ofI .u32 (x39r0.2.2.2.2.1.toNat : Int)), x39r0.2.2.2.2.2.1, (ofI .u32 (x39r0.2.2.2.2.2.2.1.toNat : Int)), x39r0.2.2.2.2.2.2.2.1, (ofI .u32 (x39r0.2.2.2.2.2.2.2.2.1.toNat : Int)), x39r0.2.2.2.2.2.2.2.2.2.1, x39r0.2.2.2.2.2.2.2.2.2.2.1, (ofI .u32 (x39r0.2.2.2.2.2.2.2.2.2.2.2.1.toNat : Int)), (ofI .u32 (x39r0.2.2.2.2.2.2.2.2.2.2.2.2.1.toNat : Int)), x39r0.2.2.2.2.2.2.2.2.2.2.2.2.2.1, x39r0.2.2.2.2.2.2.2.2.2.2.2.2.2.2.1, x39r0.2.2.2.2.2.2.2.2.2.2.2.2.2.2.2) : List (UInt32 × Int) × List (UInt32 × Int) × TyL1), ()) ->
 Zzu ((x13.1, x13.2.1, j2, j3, (ofI .u32 j4), j5, (ofI .u32 j6), false, (ofI .u32 j8), j9, j10, (ofI .u32 j11_1), (ofI .u32 j12), j13, j14, 0) : List (UInt32 × Int) × List (UInt32 × Int) × TyL1) ((x39r0.1, x39r0.2.1, x39r0.2.2.1, x39r0.2.2.2.1, (ofI .u32 (x39r0.2.2.2.2.1.toNat : Int)), x39r0.2.2.2.2.2.1, (ofI .u32 (x39r0.2.2.2.2.2.2.1.toNat : Int)), x39r0.2.2.2.2.2.2.2.1, (ofI .u32 (x39r0.2.2.2.2.2.2.2.2.1.toNat : Int)), x39r0.2.2.2.2.2.2.2.2.2.1, x39r0.2.2.2.2.2.2.2.2.2.2.1, (ofI .u32 (x39r0.2.2.2.2.2.2.2.2.2.2.2.1.toNat : Int)), (ofI .u32 (x39r0.2.2.2.2.2.2.2.2.2.2.2.2.1.toNat : Int)), x39r0.2.2.2.2.2.2.2.2.2.2.2.2.2.1, x39r0.2.2.2.2.2.2.2.2.2.2.2.2.2.2.1, x39r0.2.2.2.2.2.2.2.2.2.2.2.2.2.2.2) : List (UInt32 × Int) × List (UInt32 × Int) × TyL1) (fun x53 =>
 WfPs Zsv (x53, ()) ->
 K x53)))
 (K false)
def Ztl (four1 : Bool) (x13 : List (UInt32 × Int) × List (UInt32 × Int) × TyL1) (j11 : Bool) (K : Bool -> Prop) : Prop :=
 (WfPs Zok (((x13.1, x13.2.1, x13.2.2.1, x13.2.2.2.1, (ofI .u32 (x13.2.2.2.2.1.toNat : Int)), x13.2.2.2.2.2.1, (ofI .u32 (x13.2.2.2.2.2.2.1.toNat : Int)), false, (ofI .u32 (x13.2.2.2.2.2.2.2.2.1.toNat : Int)), x13.2.2.2.2.2.2.2.2.2.1, j11, (ofI .u32 (x13.2.2.2.2.2.2.2.2.2.2.2.1.toNat : Int)), (ofI .u32 (x13.2.2.2.2.2.2.2.2.2.2.2.2.1.toNat : Int)), x13.2.2.2.2.2.2.2.2.2.2.2.2.2.1, x13.2.2.2.2.2.2.2.2.2.2.2.2.2.2.1, 0) : List (UInt32 × Int) × List (UInt32 × Int) × TyL1), four1, ()) ->
 Zrb ((x13.1, x13.2.1, x13.2.2.1, x13.2.2.2.1, (ofI .u32 (x13.2.2.2.2.1.toNat : Int)), x13.2.2.2.2.2.1, (ofI .u32 (x13.2.2.2.2.2.2.1.toNat : Int)), false, (ofI .u32 (x13.2.2.2.2.2.2.2.2.1.toNat : Int)), x13.2.2.2.2.2.2.2.2.2.1, j11, (ofI .u32 (x13.2.2.2.2.2.2.2.2.2.2.2.1.toNat : Int)), (ofI .u32 (x13.2.2.2.2.2.2.2.2.2.2.2.2.1.toNat : Int)), x13.2.2.2.2.2.2.2.2.2.2.2.2.2.1, x13.2.2.2.2.2.2.2.2.2.2.2.2.2.2.1, 0) : List (UInt32 × Int) × List (UInt32 × Int) × TyL1) four1 (fun x28r0 x28r1 =>
 WfPs Zox (x28r0, x28r1, ()) ->
 IfB ((x28r1 : Int) != 0)
 (K (((x28r0.length : Int) : Int) == 0))
 ((WfPs Zql (x28r0, four1, ()) ->
 Zof x28r0 four1 (fun x39r0 x39r1 x39r2 =>
 WfPs Zoy (x39r0, x39r1, x39r2, ()) ->
 IfB (((x13.2.1.length : Int) : Int) == 0)
 (Zvc x13 x39r0 x39r2 0 ([] : List (Bool × List UInt32)) 0 false 0 0 false false 0 0 ([] : List UInt32) ([] : List (Int × List UInt8)) K)
 (Zvc x13 x39r0 x39r2 x13.2.2.1 x13.2.2.2.1 (x13.2.2.2.2.1.toNat : Int) x13.2.2.2.2.2.1 (x13.2.2.2.2.2.2.1.toNat : Int) (x13.2.2.2.2.2.2.2.2.1.toNat : Int) x13.2.2.2.2.2.2.2.2.2.1 j11 (x13.2.2.2.2.2.2.2.2.2.2.2.1.toNat : Int) (x13.2.2.2.2.2.2.2.2.2.2.2.2.1.toNat : Int) x13.2.2.2.2.2.2.2.2.2.2.2.2.2.1 x13.2.2.2.2.2.2.2.2.2.2.2.2.2.2.1 K))))))
def Zbhe (u0 : List (UInt32 × Int) × List (UInt32 × Int) × TyL1) (four1 : Bool) (K : Bool -> Prop) : Prop :=
 (WfPs Zyw (()) ->
 Zxx  (fun x10 =>
 WfPs Zva (x10, ()) ->
 IfB (!x10)
 (K false)
 ((WfPs Zuf (((u0.1, u0.2.1, u0.2.2.1, u0.2.2.2.1, (ofI .u32 (u0.2.2.2.2.1.toNat : Int)), u0.2.2.2.2.2.1, (ofI .u32 (u0.2.2.2.2.2.2.1.toNat : Int)), u0.2.2.2.2.2.2.2.1, (ofI .u32 (u0.2.2.2.2.2.2.2.2.1.toNat : Int)), u0.2.2.2.2.2.2.2.2.2.1, u0.2.2.2.2.2.2.2.2.2.2.1, (ofI .u32 (u0.2.2.2.2.2.2.2.2.2.2.2.1.toNat : Int)), (ofI .u32 (u0.2.2.2.2.2.2.2.2.2.2.2.2.1.toNat : Int)), u0.2.2.2.2.2.2.2.2.2.2.2.2.2.1, u0.2.2.2.2.2.2.2.2.2.2.2.2.2.2.1, u0.2.2.2.2.2.2.2.2.2.2.2.2.2.2.2) : List (UInt32 × Int) × List (UInt32 × Int) × TyL1), ()) ->
 Zza ((u0.1, u0.2.1, u0.2.2.1, u0.2.2.2.1, (ofI .u32 (u0.2.2.2.2.1.toNat : Int)), u0.2.2.2.2.2.1, (ofI .u32 (u0.2.2.2.2.2.2.1.toNat : Int)), u0.2.2.2.2.2.2.2.1, (ofI .u32 (u0.2.2.2.2.2.2.2.2.1.toNat : Int)), u0.2.2.2.2.2.2.2.2.2.1, u0.2.2.2.2.2.2.2.2.2.2.1, (ofI .u32 (u0.2.2.2.2.2.2.2.2.2.2.2.1.toNat : Int)), (ofI .u32 (u0.2.2.2.2.2.2.2.2.2.2.2.2.1.toNat : Int)), u0.2.2.2.2.2.2.2.2.2.2.2.2.2.1, u0.2.2.2.2.2.2.2.2.2.2.2.2.2.2.1, u0.2.2.2.2.2.2.2.2.2.2.2.2.2.2.2) : List (UInt32 × Int) × List (UInt32 × Int) × TyL1) (fun x13 =>
 WfPs Zvf (x13, ()) ->
 IfB x13.2.2.2.2.2.2.2.2.2.2.1
 (Ztl four1 x13 four1 K)
 (Ztl four1 x13 false K))))))
noncomputable def Zcje : Tab := ⟨[(Znm, Zbdu), (Zvw, Zbts), (Zsm, Zblj), (Zws, Zbte), (Zqx, Zbes)], []⟩
abbrev Zcda (x : PkTs Zbir) (K : PkTs Zboz -> Prop) : Prop := Zbhe x.1 x.2.1 (fun r0 => K (r0, ()))
theorem Zcdq : FnQ Tryz.prog Zblo Zbir Zboz Zcda := (Zq Zcnn (tab := Zcje) ⟨⟨Zbsp, Zcfn, Zcae, Zcdx, Zbod, trivial⟩, trivial⟩ rfl).of_eq (by kernel_rfl)
end Go.Proofs.YtboagabgpcghcaaGreatDoor
end
section
namespace Go.Proofs.YtboagabgpcghcaaGreatDoor
open Go.Sh
theorem Zcbr (a n : Nat) (K : Int -> Prop) (ha : a < 4294967296) (hn : n <= 32) (hk : K ((a - a % Zgq n : Nat) : Int)) : Zvx a n K := by
  unfold Zvx; have e1 : IntKind.wrap .i64 (32 - (n : Int)) = ((32 - n : Nat) : Int) := by rw [Zj (by omega) (by omega)]; omega
  rw [e1]; refine ⟨by omega, ?_⟩
  have hp : 2 ^ (32 - n) <= 2 ^ 32 := Nat.pow_le_pow_right (by decide) (by omega)
  have h0 : 0 < 2 ^ (32 - n) := Nat.two_pow_pos _; have e32 : (2 : Nat) ^ 32 = 4294967296 := rfl; have e2 : (min ((32 - n : Nat) : Int).toNat (IntKind.bits .u64)) = 32 - n := by rw [Int.toNat_natCast]; have : IntKind.bits .u64 = 64 := rfl; rw [this]; omega
  have e3 : (1 * (2 ^ (32 - n)) : Int) = ((2 ^ (32 - n) : Nat) : Int) := by rw [Int.one_mul]; norm_cast
  rw [e2, e3, Zyf _ (by omega), show (((2 ^ (32 - n) : Nat) : Int) - 1) = ((2 ^ (32 - n) - 1 : Nat) : Int) by omega, Zyf _ (by omega), wu32 (by omega), Zblc a ha _ (by omega)]
  exact hk
def right (a : Nat) (n : Int) : Bool := decide (0 <= n) && (decide (n <= 32) && (a % Zgq n.toNat == 0))
theorem Zbip {a : Nat} {n : Int} : right a n = true ↔ 0 <= n ∧ n <= 32 ∧ a % Zgq n.toNat = 0 := by simp [right]
theorem Zbkl (a : UInt32) (n : Int) (K : Bool -> Prop) (hk : K (right a.toNat n)) : Zns (a, n) K := by
  unfold Zns; have ha := Zcbs a; refine IfB.intro (fun h => IfB.intro (fun h2 => ?_) (fun h2 => of_eq hk ?_)) (fun h => of_eq hk ?_)
  . have h0 : 0 <= n := by simpa using h
    have h1 : n <= 32 := by simpa using h2
    obtain ⟨m, rfl⟩ := Int.eq_ofNat_of_zero_le h0; intro _; refine Zcbr a.toNat m _ ha (by omega) fun _ => of_eq hk ?_
    have hle : a.toNat % Zgq m <= a.toNat := Nat.mod_le _ _; unfold right; rw [decide_eq_true h0, decide_eq_true h1, Bool.true_and, Bool.true_and, Int.toNat_natCast]; by_cases e : a.toNat % Zgq m = 0; rw [e]; simp
    . have e1 : (a.toNat % Zgq m == 0) = false := beq_eq_false_iff_ne.2 e; have e2 : (((a.toNat - a.toNat % Zgq m : Nat) : Int) == (a.toNat : Int)) = false := beq_eq_false_iff_ne.2 (by omega)
      rw [e1, e2]
  . unfold right; simp at h2; rw [decide_eq_false (show ¬ n <= 32 by omega)]; simp
  . unfold right; simp at h; rw [decide_eq_false (show ¬ 0 <= n by omega)]; simp
end Go.Proofs.YtboagabgpcghcaaGreatDoor
namespace Go.Proofs.YtboagabgpcghcaaGreatDoor
open Go.Sh
abbrev Pf := UInt32 × Int
def Zce (p : Pf) : Bool := right p.1.toNat p.2
def octs (n : Int) : Nat := (n.toNat + 7) / 8
def Zip (p : Pf) : List UInt8 := ofI .u8 (IntKind.wrap .u8 p.2) :: (be4 p.1.toNat).take (octs p.2)
def Zbl (l : List Pf) : List UInt8 := l.flatMap Zip
theorem Zbfs {p : Pf} (h : Zce p = true) : 0 <= p.2 ∧ p.2 <= 32 := by have := Zbip.1 h; exact ⟨this.1, this.2.1⟩
theorem Zbfu {p : Pf} (h : Zce p = true) : octs p.2 <= 4 := by have := Zbfs h; unfold octs; omega
theorem Zcct (p : Pf) : (Zip p).length <= 5 := by unfold Zip; rw [List.length_cons, List.length_take, Zea]; omega
theorem Zwo : ∀ l : List Pf, (Zbl l).length <= 5 * l.length
  | [] => by simp [Zbl]
  | p :: l => by have h1 := Zwo l; have h2 := Zcct p; have e : Zbl (p :: l) = Zip p ++ Zbl l := rfl; rw [e, List.length_append, List.length_cons]; omega
theorem Zcey (l : List Pf) (p : Pf) : Zbl (l ++ [p]) = Zbl l ++ Zip p := by simp [Zbl]
theorem Zcoo (p : Pf) (K : Int -> Prop) (hp : Zce p = true) (h : K (octs p.2 : Nat)) : Zvh p.2 K := by
  have := Zbfs hp; unfold Zvh; refine ⟨by decide, of_eq h ?_⟩
  rw [Zj (n := p.2 + 8) (by omega) (by omega), Zj (n := p.2 + 8 - 1) (by omega) (by omega), Int.tdiv_eq_ediv_of_nonneg (by omega), Zj (by omega) (by omega)]
  unfold octs; omega
theorem Zcql (a i : Nat) (hi : i < 4) (x : UInt8) (h : (be4 a)[i]? = some x) : (be4 a).take (i + 1) = (be4 a).take i ++ [x] := by rw [List.take_add_one, h]; rfl
theorem Zccw (a i : Nat) (hi : i < 4) : (be4 a)[i]? = some (UInt8.ofNat (a / 2 ^ (24 - 8 * i))) := by
  match i, hi with
  | 0, _ => rfl
  | 1, _ => rfl
  | 2, _ => rfl
  | 3, _ => simp [be4]
theorem Zcgv (a k : Nat) : Int.fdiv (a : Int) (2 ^ k) = ((a / 2 ^ k : Nat) : Int) := by
  rw [Int.fdiv_eq_ediv_of_nonneg _ (Int.le_of_lt (Int.pow_pos (by decide)))]
  norm_cast
theorem Zboc (l : List Pf) (K : List UInt8 -> Bool -> Prop) (hl : l.length <= 1000000000) (h : K (if l.all Zce then Zbl l else []) (l.all Zce)) : Zoq l K := by
  unfold Zoq; refine Zm.over l (fun pre => (Zbl pre, (pre.length : Int), ())) (fun pre => pre.all Zce = true) rfl rfl (fun pre p post hp hn hP next hx => ?_) (fun hP next _ => ?_)
  . intro _; dsimp only [Zbcx]; have hb := Zwo pre; refine ifT (decide_eq_true (by omega)) ⟨by omega, AtN.of (Zbs hp) fun _ => ?_⟩
    rw [Zel]; refine fun _ => Zbkl p.1 p.2 _ fun _ => IfB.intro (fun h1 => ?_) (fun h1 => ?_)
    . have h1' : Zce p = false := by simpa [Zce] using h1
      have e : l.all Zce = false := by rw [hp]; simp [h1']
      rw [e] at h; exact h
    . have h1' : Zce p = true := by simpa [Zce] using h1
      have ho := Zbfu h1'; refine ⟨by simp; omega, fun _ => Zcoo p _ h1' fun _ => ?_⟩
      refine Zm.up (octs p.2) (fun i => (Zbl pre ++ ofI .u8 (IntKind.wrap .u8 p.2) :: (be4 p.1.toNat).take i, (i : Int), ())) (fun _ => True) (by simp) trivial (fun i hi _ next' hy => ?_) (fun _ next' => ?_)
      . intro _; dsimp only [Zbdj]; have hw : IntKind.wrap .i64 (24 - IntKind.wrap .i64 (8 * (i : Int))) = ((24 - 8 * i : Nat) : Int) := by
          rw [Zj (n := 8 * (i : Int)) (by omega) (by omega), Zj (by omega) (by omega)]; omega
        have hm : (min ((24 - 8 * i : Nat) : Int).toNat (IntKind.bits .u32)) = 24 - 8 * i := by have : IntKind.bits .u32 = 32 := rfl; rw [Int.toNat_natCast, this]; omega
        have ht : ((be4 p.1.toNat).take i).length <= 4 := by rw [List.length_take, Zea]; omega
        rw [hw, hm]; refine ifT (decide_eq_true (by omega)) ⟨by omega, by simp; omega, of_eq (hy trivial) ?_⟩
        rw [Zcgv, of8w, Zj (by omega) (by omega), Zcql _ i (by omega) _ (Zccw _ i (by omega))]
        simp
      . intro _; dsimp only [Zbdj]; refine ifF (decide_eq_false (by omega)) (of_eq (hx ?_) ?_)
        simp [hP, h1']
        . rw [Zcey, Zj (by omega) (by omega)]
          simp [Zip]
  . dsimp only [Zbcx]; refine ifF (decide_eq_false (by omega)) ?_
    rw [hP, if_pos rfl] at h; exact h
end Go.Proofs.YtboagabgpcghcaaGreatDoor
namespace Go.Proofs.YtboagabgpcghcaaGreatDoor
open Go.Sh
abbrev Upd := List Pf × List Pf × Int × List Seg × UInt32 × Bool × UInt32 × Bool × UInt32 × Bool × Bool × UInt32 × UInt32 × List UInt32 × List Raw × Int
def Zca (u : Upd) : Za := (u.2.2.1, u.2.2.2.1, u.2.2.2.2.1, u.2.2.2.2.2.1, u.2.2.2.2.2.2.1, u.2.2.2.2.2.2.2.1, u.2.2.2.2.2.2.2.2.1, u.2.2.2.2.2.2.2.2.2.1, u.2.2.2.2.2.2.2.2.2.2.1, u.2.2.2.2.2.2.2.2.2.2.2.1, u.2.2.2.2.2.2.2.2.2.2.2.2.1, u.2.2.2.2.2.2.2.2.2.2.2.2.2.1, u.2.2.2.2.2.2.2.2.2.2.2.2.2.2.1)
structure FitA (a : Za) : Prop where
  p1 : a.path.length <= 9223372036854775807
  p2 : cnt a.path <= 9223372036854775807
  p3 : ∀ s ∈ a.path, s.2.length <= 9223372036854775807
  o1 : a.others.length <= 9223372036854775807
def Zgc (w a t : List UInt8) : List UInt8 × Int :=
  if 4073 < w.length + a.length + t.length then ([], 3) else (be2 w.length ++ w ++ (be2 a.length ++ a ++ t), 0)
def updR (u : Upd) (four : Bool) : List UInt8 × Int :=
  if u.1.all Zce && u.2.1.all Zce then
    if 0 < u.2.1.length then (if Zec (Zca u) then Zgc (Zbl u.1) (Zhs four (Zca u)) (Zbl u.2.1) else ([], 2))
    else Zgc (Zbl u.1) [] (Zbl u.2.1)
  else ([], 2)
theorem Zbww {four : Bool} {p : List Seg} (hok : Zba p = true) : (Zbg four p).length <= 384 := by simp only [Zba, Bool.and_eq_true, decide_eq_true_eq] at hok; have h1 := Zbbn p hok.1; have h2 := Zzs four p; omega
theorem Zbzb {four : Bool} {a : Za} (h : Zec a = true) : (Zhs four a).length <= 3500 := by simp only [Zec, Bool.and_eq_true, decide_eq_true_eq, Bool.not_eq_true'] at h; obtain ⟨⟨⟨⟨⟨⟨_, _⟩, hpok⟩, _⟩, _⟩, hcm⟩, hoth, hol⟩ := h; have hp1 := Zbww (four := four) hpok; have hp2 := Zbww (four := true) hpok; have ho := Zbda a.others (-1) hoth; have hp := Zbrq four a; have a1 := Zdy 64 1 [ofI .u8 (IntKind.wrap .u8 a.origin)]; have a2 := Zdy 64 2 (Zbg four a.path); have a3 := Zdy 64 3 (be4 a.next.toNat); have a4 := Zdy 192 17 (Zbg true a.path); have a5 := Zdy 192 18 (be4 a.makerAS.toNat ++ be4 a.maker.toNat); unfold Zhs Zht oldB; simp only [List.length_append, Zea, List.length_cons, List.length_nil] at *; split <;> split <;> (try simp only [List.length_nil]) <;> omega
theorem Zcjz {x : Bool} (h : true = !x) : x = false := by cases x <;> simp_all
theorem Zcgp {x : Bool} (h : false = !x) : x = true := by cases x <;> simp_all
theorem Zcjf (n : Nat) : ([ofI .u8 (IntKind.wrap .u8 (Int.fdiv (n : Int) 256)), ofI .u8 (IntKind.wrap .u8 (n : Int))] : List UInt8) = be2 n := by rw [Zqj, of8w, of8w]; rfl
theorem Zbxn (b : List UInt8) (K : List UInt8 -> Prop) (hl : b.length <= 100000000) (h : K (be2 b.length ++ b)) : Zoc b K := by unfold Zoc; rw [Zcjf]; exact ⟨by decide, fun _ => Zbfp _ _ (by simp) (by simp [Zbha]; omega) fun _ => of_eq h (by simp)⟩
theorem Zbqj (w t a : List UInt8) (K : List UInt8 -> Int -> Prop) (hw : w.length <= 10000000000) (ht : t.length <= 10000000000) (ha : a.length <= 10000000000) (h : K (Zgc w a t).1 (Zgc w a t).2) : Zvo w t a K := by
  unfold Zvo; rw [Zj (n := (w.length : Int) + a.length) (by omega) (by omega), Zj (n := (w.length : Int) + a.length + t.length) (by omega) (by omega), Zj (by omega) (by omega)]
  unfold Zgc at h; refine IfB.intro (fun h1 => ?_) (fun h1 => ?_)
  . have h1 : 4073 < w.length + a.length + t.length := by have := of_decide_eq_true h1; omega
    rw [if_pos h1] at h; exact h
  . have h1 : ¬ 4073 < w.length + a.length + t.length := by have := of_decide_eq_false h1; omega
    rw [if_neg h1] at h; refine fun _ => Zbxn w _ (by omega) fun _ _ => Zbxn a _ (by omega) fun _ _ => Zbfp _ _ (by simp) (by simp [Zbha]; omega) fun _ => Zhi h ?_
    simp
theorem Zbtr (u : Upd) (four : Bool) (K : List UInt8 -> Int -> Prop) (h1 : u.1.length <= 1000000000) (h2 : u.2.1.length <= 1000000000) (hf : FitA (Zca u)) (h : K (updR u four).1 (updR u four).2) : Zrb u four K := by
  unfold Zrb; have b1 := Zwo u.1; have b2 := Zwo u.2.1; have key : ∀ j, (j = !(u.1.all Zce && u.2.1.all Zce)) -> Zwi four u (if u.1.all Zce then Zbl u.1 else []) (if u.2.1.all Zce then Zbl u.2.1 else []) j K := fun j hj => by
    unfold Zwi; simp only [Zel]; unfold updR at h; refine IfB.intro (fun h3 => ?_) (fun h3 => ?_); have : (u.1.all Zce && u.2.1.all Zce) = false := Zcjz (h3 ▸ hj); rw [this] at h; exact h
    . have e : (u.1.all Zce && u.2.1.all Zce) = true := Zcgp (h3 ▸ hj); rw [e, if_pos rfl] at h; obtain ⟨e1, e2⟩ := Bool.and_eq_true_iff.1 e; rw [e1, e2, if_pos rfl, if_pos rfl]; refine IfB.intro (fun h4 _ => ?_) (fun h4 => ?_)
      . have h4 : 0 < u.2.1.length := by have := of_decide_eq_true h4; omega
        rw [if_pos h4] at h; refine Zccl (Zca u) four _ hf.p1 hf.p2 hf.p3 hf.o1 fun _ => ?_; rw [Zbca]; refine IfB.intro (fun h5 => ?_) (fun h5 => ?_)
        . have h5 : Zec (Zca u) = false := by simpa using h5
          rw [h5] at h ⊢; exact h
        . have h5 : Zec (Zca u) = true := by simpa using h5
          rw [h5, if_pos rfl] at h ⊢; have hal := Zbzb (four := four) h5; exact Zbqj _ _ _ K (by omega) (by omega) (by omega) h
      . have h4 : ¬ 0 < u.2.1.length := by have := of_decide_eq_false h4; omega
        rw [if_neg h4] at h; exact Zbqj _ _ _ K (by omega) (by omega) (by simp) h
  refine fun _ => Zboc _ _ h1 fun _ _ => Zboc _ _ h2 fun _ => ?_; refine IfB.intro (fun h3 => key true ?_) (fun h3 => key _ ?_)
  . have : u.1.all Zce = false := by simpa using h3
    rw [this]; rfl
  . have : u.1.all Zce = true := by simpa using h3
    rw [this]; rfl
end Go.Proofs.YtboagabgpcghcaaGreatDoor
namespace Go.Proofs.YtboagabgpcghcaaGreatDoor
open Go.Sh
def pv (l : List (List UInt8)) : Nat := l.foldl (fun a w => a * 256 + val w) 0
end Go.Proofs.YtboagabgpcghcaaGreatDoor
namespace Go.Proofs.YtboagabgpcghcaaGreatDoor
open Go.Sh
end Go.Proofs.YtboagabgpcghcaaGreatDoor
namespace Go.Proofs.YtboagabgpcghcaaGreatDoor
open Go.Sh
theorem Zyg (n : Nat) (h : n < 256) : (Lib.itoa n).length <= 3 := by
  unfold Lib.itoa; rw [if_neg (by omega), Int.toNat_natCast]
  unfold Lib.decDigits; split; simp; unfold Lib.decDigits; split; simp; unfold Lib.decDigits; split; simp; omega
def txt (a : Nat) : List UInt8 := Lib.join [Lib.itoa ((a / 16777216 % 256 : Nat) : Int), Lib.itoa ((a / 65536 % 256 : Nat) : Int), Lib.itoa ((a / 256 % 256 : Nat) : Int), Lib.itoa ((a % 256 : Nat) : Int)] [46]
theorem Zbzk (a : Nat) : (txt a).length <= 15 := by
  have h1 := Zyg (a / 16777216 % 256) (by omega); have h2 := Zyg (a / 65536 % 256) (by omega); have h3 := Zyg (a / 256 % 256) (by omega); have h4 := Zyg (a % 256) (by omega)
  simp only [txt, Lib.join, List.intercalate, List.intersperse, List.flatten_cons, List.flatten_nil, List.length_append, List.length_cons, List.length_nil]; omega
theorem Zcds (a : Nat) : txt a = Lib.join [Lib.decDigits (a / 16777216 % 256), Lib.decDigits (a / 65536 % 256), Lib.decDigits (a / 256 % 256), Lib.decDigits (a % 256)] [46] := by unfold txt; rw [Zpo, Zpo, Zpo, Zpo]
def pfT (a n : Nat) : List UInt8 := txt a ++ 47 :: Lib.decDigits n
end Go.Proofs.YtboagabgpcghcaaGreatDoor
namespace Go.Proofs.YtboagabgpcghcaaGreatDoor
open Go.Sh
end Go.Proofs.YtboagabgpcghcaaGreatDoor
namespace Go.Proofs.YtboagabgpcghcaaGreatDoor
open Go.Sh
def pT (a : UInt32) (n : Int) : List UInt8 := if right a.toNat n = true then pfT a.toNat n.toNat else []
theorem Zcow (a : UInt32) (n : Int) (K : List UInt8 -> Prop) (hk : K (pT a n)) : Zsg (a, n) K := by
  unfold Zsg; simp only [Zel]; have ha := UInt32.toNat_lt a; refine fun _ => Zbkl a n _ fun _ => IfB.intro (fun h => ?_) (fun h => ?_)
  . have h : right a.toNat n = false := by simpa using h
    unfold pT at hk; rw [h] at hk; exact hk
  have h : right a.toNat n = true := by simpa using h
  obtain ⟨h0, h32, _⟩ := Zbip.1 h; have hx : ∀ s : Nat, s <= 24 -> IntKind.wrap .i64 (Zfb .u32 (Int.fdiv (a.toNat : Int) ((2 : Int) ^ (min s 32))) 255) = ((a.toNat / 2 ^ s % 256 : Nat) : Int) := by
    intro s hs; have hd : a.toNat / 2 ^ s <= a.toNat := Nat.div_le_self _ _
    rw [Nat.min_eq_left (by omega), show ((2 : Int) ^ s) = ((2 ^ s : Nat) : Int) by rw [Int.natCast_pow]; rfl, Int.fdiv_eq_ediv_of_nonneg _ (Int.natCast_nonneg _), ← Int.natCast_ediv,
      show (255 : Int) = ((255 : Nat) : Int) from rfl, Zbia .u32 _ _ (Zfh (by omega)) (Zfh (by decide)), Zcgy, wu32 (by omega), Zrd _ (by omega)]
  let L : List (List UInt8) := [Lib.itoa ((a.toNat / 16777216 % 256 : Nat) : Int), Lib.itoa ((a.toNat / 65536 % 256 : Nat) : Int), Lib.itoa ((a.toNat / 256 % 256 : Nat) : Int), Lib.itoa ((a.toNat % 256 : Nat) : Int)]
  refine Zm.up 4 (fun i => (L.take i, (i : Int), ())) (fun _ => True) rfl trivial (fun i hi _ next hn => ?_) (fun _ next => ?_)
  . intro _; dsimp only [Zbgx]; refine ifT (decide_eq_true (by omega)) ?_
    have e1 : IntKind.wrap .i64 (24 - IntKind.wrap .i64 (8 * (i : Int))) = ((24 - 8 * i : Nat) : Int) := by rw [Zj (n := 8 * (i : Int)) (by omega) (by omega), Zj (by omega) (by omega)]; omega
    have e2 : IntKind.wrap .i64 ((i : Int) + 1) = ((i + 1 : Nat) : Int) := by rw [Zj (by omega) (by omega)]; omega
    rw [e1, e2, Int.toNat_natCast, show IntKind.bits .u32 = 32 from rfl, hx _ (by omega)]
    refine ⟨by omega, fun _ => ?_⟩
    unfold Zlc; intro _; refine ⟨by simp only [List.length_take, List.length_cons, List.length_nil]; omega, of_eq (hn trivial) ?_⟩
    have hi4 : i = 0 ∨ i = 1 ∨ i = 2 ∨ i = 3 := by omega
    rcases hi4 with rfl | rfl | rfl | rfl; rfl; rfl; rfl; show (L, _, ()) = (L.take 3 ++ [Lib.itoa ((a.toNat / 1 % 256 : Nat) : Int)], _, ()); rw [Nat.div_one]; rfl
  . intro _; dsimp only [Zbgx]; refine ifF (by decide) fun _ => ?_
    unfold Zya; have hl := Zbzk a.toNat; obtain ⟨m, rfl⟩ := Int.eq_ofNat_of_zero_le h0; have hm : m <= 32 := by omega
    have hd := Zcsm (u := m) (k := 1) (by omega)
    have e3 : Lib.itoa (m : Int) = Lib.decDigits m := Zpo m; refine ⟨by simp [L], by show (txt a.toNat).length <= _; omega, fun _ => ⟨by show (txt a.toNat).length + _ <= _; unfold Zp; simp only [List.length_cons, List.length_nil]; omega, fun _ => ?_⟩⟩
    unfold Zlc; rw [e3]; refine fun _ => ⟨by show (txt a.toNat ++ _).length + _ <= _; unfold Zp; simp only [List.length_append, List.length_cons, List.length_nil]; omega, of_eq hk ?_⟩
    unfold pT pfT; rw [if_pos h]; show _ = txt a.toNat ++ [47] ++ Lib.decDigits m; simp
def within (p q : UInt32 × Int) : Bool := right p.1.toNat p.2 && (right q.1.toNat q.2 && (decide (p.2 <= q.2) && decide (q.1.toNat - q.1.toNat % Zgq p.2.toNat = p.1.toNat)))
end Go.Proofs.YtboagabgpcghcaaGreatDoor
set_option maxRecDepth 100000
namespace Go.Proofs.YtboagabgpcghcaaGreatDoor
open Go.Sh
theorem Zbjp (x y : UInt8) (r : List UInt8) (K : Int -> Prop) (h : K ((x.toNat * 256 + y.toNat : Nat) : Int)) : Zpy (x :: y :: r) K := by
  have hx := UInt8.toNat_lt x; have hy := UInt8.toNat_lt y; unfold Zpy; refine ⟨by decide, AtN.of rfl fun _ => ⟨by decide, by decide, AtN.of rfl fun _ => of_eq h ?_⟩⟩
  rw [Zrd x.toNat (by omega), Zrd y.toNat (by omega), show (x.toNat : Int) * 256 = ((x.toNat * 256 : Nat) : Int) by omega, Zrd _ (by omega), Zjh .i64 _ _ (Zxl (by omega)) (Zxl (by omega)), Zvv _ _ (by omega), Zrd _ (by omega)]
theorem Zcoa (x y : UInt8) (r : List UInt8) (K : List UInt8 -> List UInt8 -> Bool -> Prop) (hl : r.length <= 1000000000) (h : if x.toNat * 256 + y.toNat <= r.length then K (r.take (x.toNat * 256 + y.toNat)) (r.drop (x.toNat * 256 + y.toNat)) true else K [] [] false) : Zjj (x :: y :: r) K := by
  have hx := UInt8.toNat_lt x; have hy := UInt8.toNat_lt y; unfold Zjj; refine ifF (decide_eq_false (by simp only [List.length_cons]; omega)) fun _ => Zbjp x y r _ fun _ => ?_
  have e : (((x :: y :: r).length : Nat) : Int) - 2 = (r.length : Int) := by simp only [List.length_cons]; omega
  rw [e, Zj (n := (r.length : Int)) (by omega) (by omega)]
  generalize hn : x.toNat * 256 + y.toNat = n at *; by_cases hc : n <= r.length
  . rw [if_pos hc] at h; rw [decide_eq_false (by omega)]
    unfold Zrq; refine ifF rfl fun _ => Zbjp x y r _ fun _ => ?_; rw [hn]; have e2 : IntKind.wrap .i64 (2 + (n : Int)) = ((2 + n : Nat) : Int) := by rw [Zj (by omega) (by omega)]; omega
    rw [e2, Int.toNat_natCast]; refine ⟨by omega, by simp only [List.length_cons]; omega, by decide, by omega, by omega, by simp only [List.length_cons]; omega, ?_⟩
    have a1 : (x :: y :: r).take (2 + n) = x :: y :: r.take n := by rw [Nat.add_comm]; rfl
    have a2 : (x :: y :: r).drop (2 + n) = r.drop n := by rw [Nat.add_comm]; rfl
    rw [a1, a2]; exact h
  . rw [if_neg hc] at h; rw [decide_eq_true (by omega)]
    unfold Zrq; exact ifT rfl h
def allF (l : List PfB) : List Pf × Bool := if l.all (fun x => x.2.1) = true then (l.map fun x => x.1, true) else ([], false)
theorem Zbsx (b : List UInt8) (K : List Pf -> Bool -> Prop) (hl : b.length <= 1000000000) (hp : (Zbi b).length <= 1000000000) (h : K (allF (Zbi b)).1 (allF (Zbi b)).2) : Zoz b K := by
  unfold Zoz; refine ⟨show b.length <= _ by omega, ?_⟩
  show Zil _ _ (Zbi b) _; have main : ∀ (post pre : List PfB), pre ++ post = Zbi b -> pre.all (fun x => x.2.1) = true -> Zil (fun (y : (List (UInt32 × Int) × Bool × List (UInt32 × Int) × Unit)) => WfY Zrl.kinds y -> Zbis y.1 y.2.1 y.2.2.1 K)
      (fun (y : (List (UInt32 × Int) × Bool × List (UInt32 × Int) × Unit)) (x : ((UInt32 × Int) × Bool × Unit)) (next : (List (UInt32 × Int) × Bool × List (UInt32 × Int) × Unit) -> Prop) => WfY Zrl.kinds y -> WfPs Zhq.ps x -> Zbrb y.1 y.2.1 y.2.2.1 x.1 x.2.1 next K) post (([] : List (UInt32 × Int)), false, (pre.map fun x => x.1), ()) := by
    intro post; induction post with
    | nil =>
      intro pre he ha _; rw [List.append_nil] at he; subst he; unfold Zbis; unfold allF at h; rw [if_pos ha] at h; exact h
    | cons x post ih =>
      intro pre he ha _ _; refine IfB.intro (b := !x.2.1) (fun h1 => ?_) (fun h1 => ?_)
      . have h1 : x.2.1 = false := by simpa using h1
        have hb : ¬ (Zbi b).all (fun x => x.2.1) = true := by rw [← he]; simp [h1]
        unfold allF at h; rw [if_neg hb] at h; exact h
      . have h1 : x.2.1 = true := by simpa using h1
        have hlen := congrArg List.length he; simp only [List.length_append, List.length_cons] at hlen; refine ⟨by simp only [List.length_map, List.length_cons, List.length_nil]; omega, ?_⟩
        have e : (pre.map fun x => x.1) ++ [((ofI .u32 (x.1.1.toNat : Int)), x.1.2)] = (pre ++ [x]).map fun x => x.1 := by simp [Zel]
        have := ih (pre ++ [x]) (by rw [List.append_assoc]; exact he) (by rw [List.all_append, ha]; simp [h1])
        rw [← e] at this; exact this
  exact main (Zbi b) [] rfl rfl
def exU : Upd := ([(167772160, 8)], [], 0, [], 0, false, 0, false, 0, false, false, 0, 0, [], [], 0)
theorem Zcfy : updR exU false = ([0, 2, 8, 10, 0, 0], 0) := by rfl
theorem Zcjo : pT 167772160 8 = [49, 48, 46, 48, 46, 48, 46, 48, 47, 56] := by
  have d10 : Lib.decDigits (167772160 / 16777216 % 256) = [49, 48] := by
    show Lib.decDigits 10 = _; rw [Zbul (by decide)]
    show Lib.decDigits 1 ++ _ = _; rw [Zpm (by decide)]; rfl
  have d0 : ∀ k : Nat, k = 0 -> Lib.decDigits k = [48] := fun k hk => by subst hk; rw [Zpm (by decide)]; rfl
  have d8 : Lib.decDigits (8 : Int).toNat = [56] := by
    show Lib.decDigits 8 = _; rw [Zpm (by decide)]; rfl
  have hr : right (167772160 : UInt32).toNat 8 = true := by decide
  unfold pT pfT; rw [if_pos hr, d8, show (167772160 : UInt32).toNat = 167772160 from rfl, Zcds, d10, d0 (167772160 / 65536 % 256) (by decide)]
  rfl
end Go.Proofs.YtboagabgpcghcaaGreatDoor
set_option maxRecDepth 100000
namespace Go.Proofs.YtboagabgpcghcaaGreatDoor
open Go.Sh
def Zhk : List UInt8 -> Option (List UInt8 × List UInt8)
  | x :: y :: r => if x.toNat * 256 + y.toNat <= r.length then some (r.take (x.toNat * 256 + y.toNat), r.drop (x.toNat * 256 + y.toNat)) else none
  | _ => none
theorem Zbkh {b w r : List UInt8} (h : Zhk b = some (w, r)) : w.length <= b.length ∧ r.length <= b.length := by unfold Zhk at h; split at h; rename_i x y r'; split at h; cases h; simp only [List.length_take, List.length_drop, List.length_cons]; omega; cases h; cases h
theorem Zbkd (b : List UInt8) (K : List UInt8 -> List UInt8 -> Bool -> Prop) (hl : b.length <= 1000000000) (h1 : ∀ w r, Zhk b = some (w, r) -> K w r true) (h2 : Zhk b = none -> K [] [] false) : Zjj b K := by
  have short : b.length < 2 -> Zjj b K := fun hs => by
    unfold Zjj; refine ifT (decide_eq_true (by omega)) ?_
    unfold Zrq; refine ifT rfl (h2 ?_)
    match b, hs with
    | [], _ => rfl
    | [_], _ => rfl
  match b, short with
  | [], short => exact short (by decide)
  | [_], short => exact short (by simp)
  | x :: y :: r, _ =>
    refine Zcoa x y r K (by simp only [List.length_cons] at hl; omega) ?_
    split; rename_i hc; exact h1 _ _ (by simp only [Zhk]; rw [if_pos hc])
    rename_i hc; exact h2 (by simp only [Zhk]; rw [if_neg hc])
theorem Zsp : ∀ (k : Nat) (s : List UInt8), (Zgi k s).length <= k
  | 0, _ => by simp [Zgi]
  | _ + 1, [] => by simp [Zgi]
  | k + 1, x :: r => by simp only [Zgi]; split; have := Zsp k (r.drop (oct8 x.toNat)); simp only [List.length_cons]; omega; simp
theorem Zbyc (s : List UInt8) : (allF (Zbi s)).1.length <= s.length := by unfold allF; split; rw [List.length_map]; exact Zsp _ _; simp
def mkU (g t : List Pf) (a : Za) (f : Int) : Upd := (g, t, a.1, a.2.1, a.2.2.1, a.2.2.2.1, a.2.2.2.2.1, a.2.2.2.2.2.1, a.2.2.2.2.2.2.1, a.2.2.2.2.2.2.2.1, a.2.2.2.2.2.2.2.2.1, a.2.2.2.2.2.2.2.2.2.1, a.2.2.2.2.2.2.2.2.2.2.1, a.2.2.2.2.2.2.2.2.2.2.2.1, a.2.2.2.2.2.2.2.2.2.2.2.2, f)
def Zor : Upd := mkU [] [] Zcp 0
def Ziz (four : Bool) (b : List UInt8) : Upd × (Int × Int × List UInt8) × Bool :=
  match Zhk b with
  | none => (Zor, (3, 1, []), false)
  | some (w, r) => match Zhk r with
    | none => (Zor, (3, 1, []), false)
    | some (x, t) =>
      if (Zbx four (decide (0 < t.length)) x).2.1 = 3 then (Zor, Znf (Zbx four (decide (0 < t.length)) x).2.2, false)
      else if (allF (Zbi w)).2 = true ∧ (allF (Zbi t)).2 = true then
        if (Zbx four (decide (0 < t.length)) x).2.1 = 2 then (mkU ((allF (Zbi w)).1 ++ (allF (Zbi t)).1) [] Zcp 2, (0, 0, []), true)
        else if 0 < (allF (Zbi t)).1.length then (mkU (allF (Zbi w)).1 (allF (Zbi t)).1 (Zbx four (decide (0 < t.length)) x).1 (Zbx four (decide (0 < t.length)) x).2.1, (0, 0, []), true)
        else (mkU (allF (Zbi w)).1 [] Zcp (Zbx four (decide (0 < t.length)) x).2.1, (0, 0, []), true)
      else (Zor, (3, 10, []), false)
theorem Zbxu (b : List UInt8) (four : Bool) (K : Upd -> Int × Int × List UInt8 -> Bool -> Prop) (hl : b.length <= 100000) (h : K (Ziz four b).1 (Ziz four b).2.1 (Ziz four b).2.2) : Zof b four K := by
  unfold Zof; simp only [Zel]; unfold Zle; unfold Ziz at h; refine fun _ => Zbkd b _ (by omega) (fun w r e1 _ => ?_) fun e1 _ => ?_
  rotate_left
  rw [e1] at h; exact ifT rfl fun _ _ => h; rw [e1] at h; obtain ⟨l1, l2⟩ := Zbkh e1; refine ifF rfl fun _ => Zbkd r _ (by omega) (fun x t e2 _ => ?_) fun e2 _ => ?_
  rotate_left
  simp only [e2] at h; exact ifT rfl fun _ _ => h; simp only [e2] at h; obtain ⟨l3, l4⟩ := Zbkh e2; have ed : decide ((((t.length : Nat) : Int) : Int) > 0) = decide (0 < t.length) := by
    by_cases hc : 0 < t.length; rw [decide_eq_true hc, decide_eq_true (by omega)]
    rw [decide_eq_false hc, decide_eq_false (by omega)]
  rw [ed]; refine fun _ => ⟨by omega, fun _ => ?_⟩
  generalize Zbx four (decide (0 < t.length)) x = q at *; have p1 := Zbyc w; have p2 := Zbyc t; have q1 := Zsp w.length w; have q2 := Zsp t.length t; refine IfB.intro (fun g => ?_) (fun g _ => Zbsx w _ (by omega) (by unfold Zbi; omega) fun _ _ => Zbsx t _ (by omega) (by unfold Zbi; omega) fun _ => ?_)
  . have g : (q.2.1 : Int) = 3 := by simpa using g
    rw [if_pos (by omega)] at h; exact h
  have g : ¬ (q.2.1 : Int) = 3 := by simpa using g
  rw [if_neg (by omega)] at h
  have bad : ¬ ((allF (Zbi w)).2 = true ∧ (allF (Zbi t)).2 = true) -> Zpr q.1 (q.2.1 : Int) (allF (Zbi w)).1 (allF (Zbi t)).1 true K := fun hb => by rw [if_neg hb] at h; unfold Zpr Zle; simp only [Zel]; exact ifT rfl fun _ _ => h
  refine IfB.intro (fun g1 => bad fun e => by rw [e.1] at g1; cases g1) (fun g1 => ?_)
  have g1 : (allF (Zbi w)).2 = true := by simpa using g1
  cases g2 : (allF (Zbi t)).2 with
  | false => exact bad fun e => by rw [g2] at e; exact absurd e.2 (by decide)
  | true =>
    rw [if_pos ⟨g1, g2⟩] at h; unfold Zpr; refine ifF rfl (IfB.intro (fun g3 => ?_) (fun g3 => IfB.intro (fun g4 => ?_) (fun g4 => ?_)))
    . have g3 : (q.2.1 : Int) = 2 := by simpa using g3
      rw [if_pos (by omega)] at h
      refine ⟨by omega, ?_⟩
      unfold Zmt; rw [g3]; exact h
    . have g3 : ¬ (q.2.1 : Int) = 2 := by simpa using g3
      have g4 : 0 < (allF (Zbi t)).1.length := by have := of_decide_eq_true g4; omega
      rw [if_neg (by omega), if_pos g4] at h
      unfold Zmt; simp only [Zel]; exact h
    . have g3 : ¬ (q.2.1 : Int) = 2 := by simpa using g3
      have g4 : ¬ 0 < (allF (Zbi t)).1.length := by have := of_decide_eq_false g4; omega
      rw [if_neg (by omega), if_neg g4] at h
      unfold Zmt; exact h
end Go.Proofs.YtboagabgpcghcaaGreatDoor
namespace Go.Proofs.YtboagabgpcghcaaGreatDoor
open Go.Sh
theorem Zcti (j m : Nat) (x : UInt8) (hj : j <= 3) (hm : m < 256 ^ j) : Zgp ((2 ^ (32 - 8 * j) * m : Nat) : Int) j x = ((2 ^ (24 - 8 * j) * (m * 256 + x.toNat) : Nat) : Int) := by
  have hx := UInt8.toNat_lt x; have e1 : 2 ^ (32 - 8 * j) = 2 ^ (24 - 8 * j) * 256 := by rw [show 32 - 8 * j = 24 - 8 * j + 8 by omega, Nat.pow_add]
  have e2 : 2 ^ (24 - 8 * j) * 256 ^ (j + 1) = 4294967296 := by
    have : (256 : Nat) ^ (j + 1) = 2 ^ (8 * (j + 1)) := by rw [Nat.pow_mul]
    rw [this, ← Nat.pow_add, show 24 - 8 * j + 8 * (j + 1) = 32 by omega]
  have hp : 0 < 2 ^ (24 - 8 * j) := Nat.two_pow_pos _; have h1 : m * 256 + x.toNat < 256 ^ (j + 1) := by rw [Nat.pow_succ]; omega
  have h2 : 2 ^ (24 - 8 * j) * (m * 256 + x.toNat) < 4294967296 := by rw [← e2]; exact Nat.mul_lt_mul_of_pos_left h1 hp
  have h3 : 2 ^ (32 - 8 * j) * m + x.toNat * 2 ^ (24 - 8 * j) = 2 ^ (24 - 8 * j) * (m * 256 + x.toNat) := by rw [e1, Nat.mul_add, Nat.mul_comm x.toNat, Nat.mul_assoc, Nat.mul_comm 256 m]
  have h4 : x.toNat * 2 ^ (24 - 8 * j) < 2 ^ (32 - 8 * j) := by rw [e1, Nat.mul_comm]; exact Nat.mul_lt_mul_of_pos_left hx hp
  unfold Zgp
  rw [Nat.min_eq_left (by omega), wu32 (a := x.toNat) (by omega), show (x.toNat : Int) * 2 ^ (24 - 8 * j) = ((x.toNat * 2 ^ (24 - 8 * j) : Nat) : Int) by rw [Int.natCast_mul, Int.natCast_pow]; rfl, wu32 (by omega),
    Zjh .u32 _ _ (Zfh (by omega)) (Zfh (by omega)), Zon _ _ _ h4, wu32 (by omega), h3]
theorem Zbjx : ∀ (l : List UInt8) (j m : Nat), j + l.length <= 4 -> m < 256 ^ j -> pxF j ((2 ^ (32 - 8 * j) * m : Nat) : Int) l = ((2 ^ (32 - 8 * (j + l.length)) * l.foldl (fun a x => a * 256 + x.toNat) m : Nat) : Int)
  | [], j, m, _, _ => rfl
  | x :: l, j, m, hl, hm => by
    simp only [List.length_cons] at hl; have hx := UInt8.toNat_lt x; simp only [pxF]; rw [Zcti j m x (by omega) hm, show 24 - 8 * j = 32 - 8 * (j + 1) by omega, Zbjx l (j + 1) (m * 256 + x.toNat) (by omega) (by rw [Nat.pow_succ]; omega)]
    simp only [List.length_cons, List.foldl_cons]; rw [show j + 1 + l.length = j + (l.length + 1) by omega]
theorem Zcax (l : List UInt8) (h : l.length <= 4) : pxN l = numB l * 256 ^ (4 - l.length) := by
  have := Zbjx l 0 0 (by omega) (by decide)
  unfold pxN; have e : ((2 ^ (32 - 8 * 0) * 0 : Nat) : Int) = 0 := by simp
  rw [e] at this; rw [this, Int.toNat_natCast, Nat.mul_comm]; show numB l * 2 ^ (32 - 8 * (0 + l.length)) = _; congr 1; rw [show 32 - 8 * (0 + l.length) = 8 * (4 - l.length) by omega, Nat.pow_mul]
end Go.Proofs.YtboagabgpcghcaaGreatDoor
set_option maxRecDepth 100000
namespace Go.Proofs.YtboagabgpcghcaaGreatDoor
open Go.Sh
theorem Zcav {a k : Nat} (ha : a < 4294967296) (hk : k <= 4) : numB ((be4 a).take k) = a / 256 ^ (4 - k) := by
  have e : k = 0 ∨ k = 1 ∨ k = 2 ∨ k = 3 ∨ k = 4 := by omega
  rcases e with rfl | rfl | rfl | rfl | rfl <;> simp only [be4, List.take, numB, List.foldl, UInt8.toNat_ofNat'] <;> omega
theorem Zcnh {p : Pf} (h : Zce p = true) : Zxa p.2.toNat ((be4 p.1.toNat).take (octs p.2)) = p := by
  obtain ⟨a, n⟩ := p; have h' : right a.toNat n = true := h; obtain ⟨h0, h32, hz⟩ := Zbip.1 h'; have ho : octs n <= 4 := Zbfu h; have ha := UInt32.toNat_lt a; have hl : ((be4 a.toNat).take (octs n)).length = octs n := by rw [List.length_take, Zea]; omega
  have hN : pxN ((be4 a.toNat).take (octs n)) = a.toNat := by
    rw [Zcax _ (by omega), hl, Zcav (by omega) ho]
    have hd : 256 ^ (4 - octs n) ∣ a.toNat := by
      have e : (256 : Nat) ^ (4 - octs n) = 2 ^ (8 * (4 - octs n)) := by rw [Nat.pow_mul]
      rw [e]; exact Nat.dvd_trans (Nat.pow_dvd_pow 2 (by unfold octs; omega)) (Nat.dvd_of_mod_eq_zero hz)
    exact Nat.div_mul_cancel hd
  unfold Zxa; rw [hN, hz, Nat.sub_zero]; exact Prod.ext (UInt32.toNat_inj.1 (by show (UInt32.ofNat a.toNat).toNat = a.toNat; rw [UInt32.toNat_ofNat']; omega)) (by show ((n.toNat : Nat) : Int) = n; omega)
theorem Zbrf : ∀ l : List Pf, l.all Zce = true -> Zbi (Zbl l) = l.map fun p => (p, true, ())
  | [], _ => rfl
  | p :: l, h => by
    rw [List.all_cons, Bool.and_eq_true] at h; obtain ⟨h1, h2⟩ := h; obtain ⟨b0, b1⟩ := Zbfs h1; have hx : (ofI .u8 (IntKind.wrap .u8 p.2) : UInt8).toNat = p.2.toNat := by rw [Zlo]; show (UInt8.ofNat ((p.2 % 256).toNat)).toNat = _; rw [UInt8.toNat_ofNat']; omega
    have ho : octs p.2 = oct8 p.2.toNat := rfl; have ho4 := Zbfu h1; have e : Zbl (p :: l) = ofI .u8 (IntKind.wrap .u8 p.2) :: ((be4 p.1.toNat).take (octs p.2) ++ Zbl l) := by simp [Zbl, Zip]
    have hl : ((be4 p.1.toNat).take (octs p.2)).length = octs p.2 := by rw [List.length_take, Zea]; omega
    rw [e, Zbqn ⟨by omega, by rw [hx, List.length_append, hl, ho]; omega⟩, hx, ← ho, List.take_left' hl, List.drop_left' hl, Zcnh h1, Zbrf l h2]
    rfl
theorem Zbtz {l : List Pf} (h : l.all Zce = true) : allF (Zbi (Zbl l)) = (l, true) := by
  rw [Zbrf l h]; unfold allF; rw [if_pos (by simp), List.map_map]
  exact congrArg (fun z => (z, true)) (List.map_id' l)
theorem Zble {w : List UInt8} (rest : List UInt8) (h : w.length < 65536) : Zhk (be2 w.length ++ w ++ rest) = some (w, rest) := by
  have e : be2 w.length ++ w ++ rest = UInt8.ofNat (w.length / 256) :: UInt8.ofNat w.length :: (w ++ rest) := by simp [be2]
  have en : (UInt8.ofNat (w.length / 256)).toNat * 256 + (UInt8.ofNat w.length).toNat = w.length := by rw [UInt8.toNat_ofNat', UInt8.toNat_ofNat']; omega
  rw [e]; simp only [Zhk]; rw [en, if_pos (by rw [List.length_append]; omega), List.take_left' rfl, List.drop_left' rfl]
theorem Zcls {u : Upd} {four : Bool} (h0 : (updR u four).2 = 0) (hm : four = false -> (Zca u).hasMaker = false) : Ziz four (updR u four).1 = (mkU u.1 u.2.1 (if 0 < u.2.1.length then Zgm (Zca u) else Zcp) 0, (0, 0, []), true) := by
  unfold updR at h0 ⊢; by_cases hr : (u.1.all Zce && u.2.1.all Zce) = true
  rotate_left
  rw [if_neg hr] at h0; exact absurd (show (2 : Int) = 0 from h0) (by decide)
  rw [if_pos hr] at h0 ⊢; obtain ⟨r1, r2⟩ := Bool.and_eq_true_iff.1 hr
  have body : ∀ a, (Zgc (Zbl u.1) a (Zbl u.2.1)).2 = 0 -> Ziz four (Zgc (Zbl u.1) a (Zbl u.2.1)).1 = (if (Zbx four (decide (0 < (Zbl u.2.1).length)) a).2.1 = 3 then (Zor, Znf (Zbx four (decide (0 < (Zbl u.2.1).length)) a).2.2, false)
      else if (Zbx four (decide (0 < (Zbl u.2.1).length)) a).2.1 = 2 then (mkU (u.1 ++ u.2.1) [] Zcp 2, (0, 0, []), true)
        else if 0 < u.2.1.length then (mkU u.1 u.2.1 (Zbx four (decide (0 < (Zbl u.2.1).length)) a).1 (Zbx four (decide (0 < (Zbl u.2.1).length)) a).2.1, (0, 0, []), true)
        else (mkU u.1 [] Zcp (Zbx four (decide (0 < (Zbl u.2.1).length)) a).2.1, (0, 0, []), true)) := fun a h => by
    unfold Zgc at h ⊢; by_cases hc : 4073 < (Zbl u.1).length + a.length + (Zbl u.2.1).length; rw [if_pos hc] at h; exact absurd (show (3 : Int) = 0 from h) (by decide)
    . rw [if_neg hc]; unfold Ziz; simp only; rw [Zble _ (by omega)]
      simp only; rw [Zble _ (by omega)]
      simp only; rw [Zbtz r1, Zbtz r2, if_pos (⟨rfl, rfl⟩ : true = true ∧ true = true)]
  by_cases ht : 0 < u.2.1.length
  . rw [if_pos ht] at h0 ⊢; by_cases ha : Zec (Zca u) = true
    rotate_left
    rw [if_neg ha] at h0; exact absurd (show (2 : Int) = 0 from h0) (by decide)
    rw [if_pos ha] at h0 ⊢; rw [body _ h0]; have hp : decide (0 < (Zbl u.2.1).length) = true := by
      refine decide_eq_true ?_
      match hu : u.2.1 with
      | [] => rw [hu] at ht; simp at ht
      | p :: l => simp [Zbl, Zip]
    rw [hp]; obtain ⟨r, e1, e2⟩ := Zcha four true ha; rw [e1]; simp only; rw [if_neg (by decide), if_neg (by decide), if_pos ht, if_pos ht, e2 fun h => by rw [hm h.1] at h; exact absurd h.2.2.1 (by decide)]
    rfl
  . rw [if_neg ht] at h0 ⊢; rw [body _ h0]; have hn : u.2.1 = [] := List.eq_nil_of_length_eq_zero (by omega)
    have ed : decide (0 < (Zbl ([] : List Pf)).length) = false := rfl; have e : (Zbx four false []).2.1 = 0 := by cases four <;> rfl
    rw [hn, ed, e]; rfl
end Go.Proofs.YtboagabgpcghcaaGreatDoor
namespace Go.Proofs.YtboagabgpcghcaaGreatDoor
open Go.Sh
theorem mism {A : Type} [BEq A] [LawfulBEq A] {s t pre post : List A} {x y : A} (hs : s = pre ++ x :: post) (ht : t[pre.length]? = some y) (h : x ≠ y) : (s == t) = false := by
  refine beq_eq_false_iff_ne.2 fun e => h ?_; have h1 : s[pre.length]? = some x := by rw [hs]; simp
  rw [e, ht] at h1; cases h1; rfl
theorem Zoj {A : Type} {t pre : List A} {x : A} (hP : pre = t.take pre.length) (ht : t[pre.length]? = some x) : pre ++ [x] = t.take (pre ++ [x]).length := by rw [List.length_append, List.length_singleton, List.take_add_one, ht, ← hP]; rfl
theorem Zno {A : Type} [BEq A] [LawfulBEq A] {s t : List A} (hP : s = t.take s.length) (hl : s.length = t.length) : (s == t) = true := by rw [hl, List.take_length] at hP; exact beq_iff_eq.2 hP
theorem at_len {A : Type} {t : List A} {n : Nat} (h : n < t.length) : t[((n : Nat) : Int).toNat]? = some t[n] := by rw [Int.toNat_natCast]; exact List.getElem?_eq_getElem h
theorem ne32 (x y : UInt32) : ((x.toNat : Int) != (y.toNat : Int)) = !(x == y) := by
  by_cases h : x = y; subst h; simp
  . have h1 : (x.toNat : Int) ≠ y.toNat := fun e => h (UInt32.toNat_inj.1 (by omega))
    have h2 : (x == y) = false := beq_eq_false_iff_ne.2 h; rw [h2, bne_iff_ne.2 h1]; rfl
theorem Zxg {A : Type} [BEq A] [LawfulBEq A] {s t : List A} (h : ((s.length : Int) != (t.length : Int)) = true) : (s == t) = false := by refine beq_eq_false_iff_ne.2 fun e => ?_; subst e; simp at h
theorem Zqa {A : Type} {s t : List A} (h : ((s.length : Int) != (t.length : Int)) = false) : s.length = t.length := by simp at h; omega
def perh (i w s : Bool) : Bool := i == w && (!i || s)
def Zdv (a b : Za) : Bool :=
  a.origin == b.origin && (a.next == b.next && (a.atomic == b.atomic && (perh a.hasMed b.hasMed (a.med == b.med) && (perh a.hasLocal b.hasLocal (a.loc == b.loc) &&
    (perh a.hasMaker b.hasMaker (a.makerAS == b.makerAS && a.maker == b.maker) && (a.path == b.path && (a.comms == b.comms && a.others == b.others)))))))
theorem Zcrl {i s : Bool} (h : s = true) : perh i i s = true := by subst h; cases i <;> rfl
theorem Zbyq (a : Za) : Zdv a a = true := by unfold Zdv; simp only [beq_self_eq_true, Bool.true_and, Bool.and_true, Zcrl rfl]
end Go.Proofs.YtboagabgpcghcaaGreatDoor
namespace Go.Proofs.YtboagabgpcghcaaGreatDoor
open Go.Sh
theorem Zces (s t : List Seg) (K : Bool -> Prop) (hl : s.length <= 9223372036854775807) (hs : ∀ x ∈ s, x.2.length <= 9223372036854775807) (h : K (s == t)) : Zxp s t K := by
  unfold Zxp; refine IfB.intro (fun h1 => of_eq h (Zxg h1)) (fun h1 => ?_); have h1 := Zqa h1; refine Zm.over s (fun pre => ((pre.length : Int), ())) (fun pre => pre = t.take pre.length) rfl rfl (fun pre x post hp hn hP next hx => ?_) (fun hP next _ => ?_)
  . intro _; dsimp only [Zbff]; have hlt : pre.length < t.length := by omega
    have hty : t[pre.length]? = some t[pre.length] := List.getElem?_eq_getElem hlt; have hat := at_len hlt; have hxl := hs x (by simp [hp])
    generalize t[pre.length] = y at hty hat; have hne : ∀ (g : x ≠ y), K false := fun g => of_eq h (mism hp hty g); have hj : ∀ j : Bool, (j = true -> x ≠ y) -> (j = false -> x.1 = y.1 ∧ x.2.length = y.2.length) -> Zbbm s t (pre.length : Int) next j K := fun j k1 k2 => by
      unfold Zbbm; refine IfB.intro (fun g => hne (k1 g)) (fun g => ?_); obtain ⟨q1, q2⟩ := k2 g; refine Zm.over x.2 (fun l => ((l.length : Int), ())) (fun l => l = y.2.take l.length) rfl rfl (fun l z r hz hm hL next' hy => ?_) (fun hL next' _ => ?_)
      . intro _; dsimp only [Zbfc]; have hlt2 : l.length < y.2.length := by omega
        refine ⟨by omega, AtN.of (Zbs hp) fun _ => ifT (decide_eq_true (by omega)) ⟨by omega, AtN.of (Zbs hp) fun _ => ⟨by omega, AtN.of (Zbs hz) fun _ => ⟨by omega, AtN.of hat fun _ => ⟨by omega, AtN.of (at_len hlt2) fun _ => ?_⟩⟩⟩⟩⟩
        rw [ne32]; refine IfB.intro (fun g2 => hne fun e => ?_) (fun g2 => of_eq (hy ?_) ?_)
        . have g3 := mism hz (List.getElem?_eq_getElem hlt2) (by simpa using g2)
          rw [e] at g3; simp at g3
        exact Zoj hL (by rw [List.getElem?_eq_getElem hlt2]; congr 1; simpa using (by simpa using g2 : z = y.2[l.length]).symm)
        . rw [Zj (by omega) (by omega)]; simp
      . dsimp only [Zbfc]; refine ⟨by omega, AtN.of (Zbs hp) fun _ => ifF (decide_eq_false (by omega)) (of_eq (hx ?_) ?_)⟩
        have e2 : x.2 = y.2 := beq_iff_eq.1 (Zno hL q2); exact Zoj hP (by rw [hty]; congr 1; exact Prod.ext q1.symm e2.symm)
        . rw [Zj (by omega) (by omega)]; simp
    refine ifT (decide_eq_true (by omega)) ⟨by omega, AtN.of (Zbs hp) fun _ => ⟨by omega, AtN.of hat fun _ => ?_⟩⟩
    refine IfB.intro (fun g => hj true (fun _ e => by rw [e] at g; simp at g) (fun g => by cases g)) (fun g => ⟨by omega, AtN.of (Zbs hp) fun _ => ⟨by omega, AtN.of hat fun _ => hj _ (fun g2 e => by rw [e] at g2; simp at g2) (fun g2 => ⟨by simpa using g, Zqa g2⟩)⟩⟩)
  dsimp only [Zbff]; exact ifF (decide_eq_false (by omega)) (of_eq h (Zno hP h1))
theorem Zchw (a b : Za) (K : Bool -> Prop) (hc : a.comms.length <= 9223372036854775807) (ho : a.others.length <= 9223372036854775807) (h1 : a.comms.length = b.comms.length) (h2 : a.others.length = b.others.length) (h : K (a.comms == b.comms && a.others == b.others)) : Zz a b false K := by
  obtain ⟨origin, path, nxt, hasMed, med, hasLocal, loc, atomic, hasMaker, makerAS, maker, comms, others⟩ := a; obtain ⟨origin', path', nxt', hasMed', med', hasLocal', loc', atomic', hasMaker', makerAS', maker', comms', others'⟩ := b; simp only [Za.comms, Za.others] at *; unfold Zz; refine ifF rfl ?_; refine Zm.over comms (fun pre => ((pre.length : Int), ())) (fun pre => pre = comms'.take pre.length) rfl rfl (fun pre x post hp hn hP next hx => ?_) (fun hP next _ => ?_)
  . intro _; dsimp only [Zbhg]; have hlt : pre.length < comms'.length := by omega
    refine ifT (decide_eq_true (by omega)) ⟨by omega, AtN.of (Zbs hp) fun _ => ⟨by omega, AtN.of (at_len hlt) fun _ => ?_⟩⟩
    rw [ne32]; refine IfB.intro (fun g => of_eq h (by rw [mism hp (List.getElem?_eq_getElem hlt) (by simpa using g), Bool.false_and])) (fun g => of_eq (hx ?_) ?_)
    exact Zoj hP (by rw [List.getElem?_eq_getElem hlt]; congr 1; simpa using (by simpa using g : x = comms'[pre.length]).symm)
    . rw [Zj (by omega) (by omega)]; simp
  . dsimp only [Zbhg]; refine ifF (decide_eq_false (by omega)) ?_
    rw [Zno hP h1, Bool.true_and] at h; refine Zm.over others (fun pre => ((pre.length : Int), ())) (fun pre => pre = others'.take pre.length) rfl rfl (fun pre x post hp hn hP next hx => ?_) (fun hP next _ => ?_)
    . intro _; dsimp only [Zbdy]; have hlt : pre.length < others'.length := by omega
      have hty : others'[pre.length]? = some others'[pre.length] := List.getElem?_eq_getElem hlt; have hat := at_len hlt; generalize others'[pre.length] = y at hty hat; have hj : ∀ j : Bool, (j = true -> x ≠ y) -> (j = false -> x = y) -> Zvp (origin, path, nxt, hasMed, med, hasLocal, loc, atomic, hasMaker, makerAS, maker, comms, others) (origin', path', nxt', hasMed', med', hasLocal', loc', atomic', hasMaker', makerAS', maker', comms', others') (pre.length : Int) next j K := fun j k1 k2 => by
        unfold Zvp; refine IfB.intro (fun g => of_eq h (mism hp hty (k1 g))) (fun g => of_eq (hx ?_) ?_); exact Zoj hP (by rw [hty, k2 g])
        . rw [Zj (by omega) (by omega)]; simp
      refine ifT (decide_eq_true (by omega)) ⟨by omega, AtN.of (Zbs hp) fun _ => ⟨by omega, AtN.of hat fun _ => ?_⟩⟩
      refine IfB.intro (fun g => hj true (fun _ e => by rw [e] at g; simp at g) (fun g => by cases g)) (fun g => ⟨by omega, AtN.of (Zbs hp) fun _ => ⟨by omega, AtN.of hat fun _ => hj _ (fun g2 e => by rw [e] at g2; simp at g2) (fun g2 => Prod.ext (by simpa using g) (by simpa using g2))⟩⟩)
    dsimp only [Zbdy]; exact ifF (decide_eq_false (by omega)) (of_eq h (Zno hP h2))
theorem stg {i w : Bool} {x y : UInt32} {J X : Prop} (h1 : perh i w (x == y) = false -> J) (h2 : perh i w (x == y) = true -> X) : IfB (!(i == w)) J (IfB i (IfB ((x.toNat : Int) != (y.toNat : Int)) J X) X) := by rw [ne32]; cases i <;> cases w <;> cases hxy : (x == y) <;> simp_all [IfB, perh]
theorem stg2 {i w : Bool} {x y u v : UInt32} {J X : Prop} (h1 : perh i w (x == y && u == v) = false -> J) (h2 : perh i w (x == y && u == v) = true -> X) : IfB (!(i == w)) J (IfB i (IfB ((x.toNat : Int) != (y.toNat : Int)) J (IfB ((u.toNat : Int) != (v.toNat : Int)) J X)) X) := by rw [ne32, ne32]; cases i <;> cases w <;> cases hxy : (x == y) <;> cases huv : (u == v) <;> simp_all [IfB, perh]
theorem Zcrk (a b : Za) (K : Bool -> Prop) (hl : a.path.length <= 9223372036854775807) (hs : ∀ x ∈ a.path, x.2.length <= 9223372036854775807) (hc : a.comms.length <= 9223372036854775807) (ho : a.others.length <= 9223372036854775807) (h : K (Zdv a b)) : Zwp a b K := by
  have no : Zdv a b = false -> Zz a b true K := fun e => by unfold Zz; exact ifT rfl (of_eq h e)
  unfold Zwp; rw [ne32]; refine IfB.intro (fun g => no (by simp at g; simp [Zdv, g])) (fun g1 _ => Zces _ _ _ hl hs fun _ => ?_)
  refine IfB.intro (fun g => no (by simp at g; simp [Zdv, g])) (fun g2 => ?_)
  refine IfB.intro (fun g => no (by simp at g; simp [Zdv, g])) (fun g3 => ?_)
  refine stg (fun g => no (by simp [Zdv, g])) (fun g4 => ?_)
  refine stg (fun g => no (by simp [Zdv, g])) (fun g5 => ?_)
  refine IfB.intro (fun g => no (by simp at g; simp [Zdv, g])) (fun g6 => ?_)
  refine stg2 (fun g => no (by simp [Zdv, g])) (fun g7 => ?_)
  have e1 : (a.origin == b.origin) = true := by simpa using g1
  have e2 : (a.path == b.path) = true := by simpa using g2
  have e3 : (a.next == b.next) = true := by simpa using g3
  have e6 : (a.atomic == b.atomic) = true := by simpa using g6
  refine IfB.intro (fun g => no (by have := Zxg g; simp [Zdv, this])) (fun g8 => ?_)
  have q1 := Zqa g8; have key : ∀ j, ((a.others.length : Int) != (b.others.length : Int)) = j -> Zz a b j K := fun j g9 => by
    cases j with
    | true =>
      have := Zxg g9; exact no (by simp [Zdv, this])
    | false =>
      refine Zchw a b K hc ho q1 (Zqa g9) (of_eq h ?_); unfold Zdv; rw [e1, e2, e3, e6, g4, g5, g7]; simp only [Bool.true_and]
  exact key _ rfl
end Go.Proofs.YtboagabgpcghcaaGreatDoor
namespace Go.Proofs.YtboagabgpcghcaaGreatDoor
open Go.Sh
theorem Zcts (p : List Seg) (K : List Seg -> Prop) (hl : p.length < 1000000000) (hs : ∀ s ∈ p, s.2.length <= 35184372088736) (h : K p) : Ztr p K := by
  unfold Ztr; refine Zm.over p (fun pre => (pre, (pre.length : Int), ())) (fun _ => True) rfl trivial (fun pre s post hp hn _ next hx => ?_) (fun _ next _ => ?_)
  . intro _; dsimp only [Zbfo]; have := hs s (by simp [hp])
    refine ifT (decide_eq_true (by omega)) ⟨by omega, AtN.of (Zbs hp) fun _ => ⟨by omega, AtN.of (Zbs hp) fun _ => ⟨by simpa using this, by simp only [List.length_cons, List.length_nil]; omega, of_eq (hx trivial) ?_⟩⟩⟩
    rw [Zj (by omega) (by omega)]; simp
  dsimp only [Zbfo]; exact ifF (decide_eq_false (by omega)) h
theorem Zcgb (a : Za) (K : Za -> Prop) (hl : a.path.length < 1000000000) (hs : ∀ s ∈ a.path, s.2.length <= 35184372088736) (hm : a.comms.length <= 35184372088736) (ho : a.others.length <= 4398046511008) (hd : ∀ x ∈ a.others, x.2.length <= 140737488355232) (h : K a) : Zsj a K := by
  obtain ⟨origin, path, nxt, hasMed, med, hasLocal, loc, atomic, hasMaker, makerAS, maker, comms, others⟩ := a; simp only [Za.path, Za.comms, Za.others] at *; dsimp only [Zsj]; refine fun _ => Zcts path _ hl hs fun _ => ⟨by simp only [List.length_nil]; omega, ?_⟩
  refine Zm.over others (fun pre => ((pre.length : Int), origin, path, (nxt.toNat : Int), hasMed, (med.toNat : Int), hasLocal, (loc.toNat : Int), atomic, hasMaker, (makerAS.toNat : Int), (maker.toNat : Int), comms, pre, ())) (fun _ => True) rfl trivial (fun pre x post hp hn _ next hx => ?_) (fun _ next _ => ?_)
  . intro _; dsimp only [Zbey]; have hx2 := hd x (by simp [hp])
    refine ifT (decide_eq_true (by omega)) ⟨by omega, AtN.of (Zbs hp) fun _ => ⟨by omega, AtN.of (Zbs hp) fun _ => ⟨by simp only [List.length_nil]; omega, by simp only [List.length_cons, List.length_nil]; omega, of_eq (hx trivial) ?_⟩⟩⟩
    rw [Zj (by omega) (by omega)]
    simp
  . dsimp only [Zbey]; refine ifF (decide_eq_false (by omega)) (of_eq h ?_)
    simp only [Zel]
end Go.Proofs.YtboagabgpcghcaaGreatDoor
set_option maxRecDepth 100000
namespace Go.Proofs.YtboagabgpcghcaaGreatDoor
open Go.Sh
theorem Zod (a b : Nat) : (min (a : Int) (b : Int)).toNat = min a b := by omega
theorem Zrc {A : Type} (l : List A) (n : Nat) : l.take (min l.length n) = l.take n := by rcases Nat.le_total l.length n with h | h; rw [Nat.min_eq_left h, List.take_length, List.take_of_length_le h]; rw [Nat.min_eq_right h]
def fewU (u : Upd) : Upd := (u.1.take 40, u.2.1.take 40, u.2.2.1, u.2.2.2.1.take 8, u.2.2.2.2.1, u.2.2.2.2.2.1, u.2.2.2.2.2.2.1, u.2.2.2.2.2.2.2.1, u.2.2.2.2.2.2.2.2.1, u.2.2.2.2.2.2.2.2.2.1, u.2.2.2.2.2.2.2.2.2.2.1, u.2.2.2.2.2.2.2.2.2.2.2.1, u.2.2.2.2.2.2.2.2.2.2.2.2.1, u.2.2.2.2.2.2.2.2.2.2.2.2.2.1.take 40, u.2.2.2.2.2.2.2.2.2.2.2.2.2.2.1.take 10, u.2.2.2.2.2.2.2.2.2.2.2.2.2.2.2)
def SzU (u : Upd) : Prop := (∀ s ∈ u.2.2.2.1, s.2.length <= 35184372088736) ∧ ∀ x ∈ u.2.2.2.2.2.2.2.2.2.2.2.2.2.2.1, x.2.length <= 140737488355232
theorem Zcit (u : Upd) (K : Upd -> Prop) (hs : SzU u) (h : K (fewU u)) : Zza u K := by
  unfold Zza; have e40 : (min (u.1.length : Int) 40).toNat = min u.1.length 40 := Zod _ 40; have e41 : (min (u.2.1.length : Int) 40).toNat = min u.2.1.length 40 := Zod _ 40; have e8 : (min (u.2.2.2.1.length : Int) 8).toNat = min u.2.2.2.1.length 8 := Zod _ 8; have e42 : (min (u.2.2.2.2.2.2.2.2.2.2.2.2.2.1.length : Int) 40).toNat = min u.2.2.2.2.2.2.2.2.2.2.2.2.2.1.length 40 := Zod _ 40; have e10 : (min (u.2.2.2.2.2.2.2.2.2.2.2.2.2.2.1.length : Int) 10).toNat = min u.2.2.2.2.2.2.2.2.2.2.2.2.2.2.1.length 10 := Zod _ 10; rw [e40, e41, e8, e42, e10, Zrc, Zrc, Zrc, Zrc, Zrc]; simp only [Zel]; refine ⟨by omega, by omega, by simp only [List.length_take, List.length_nil]; omega, by omega, by omega, by simp only [List.length_take, List.length_nil]; omega, by omega, by omega, by omega, by omega, by omega, by omega, ?_⟩
  refine fun _ => Zcgb _ _ ?_ ?_ ?_ ?_ ?_ fun _ => of_eq h ?_; simp only [Za.path, List.length_take]; omega; exact fun s hm => hs.1 s (List.mem_of_mem_take hm); simp only [Za.comms, List.length_take]; omega; simp only [Za.others, List.length_take]; omega; exact fun x hm => hs.2 x (List.mem_of_mem_take hm); simp [fewU]
theorem Zboe : ∀ (p : List Seg) (n : Nat), (∀ s ∈ p, s.2.length <= n) -> cnt p <= n * p.length
  | [], _, _ => by simp [cnt]
  | s :: p, n, h => by
    have h1 := Zboe p n fun s hs => h s (by simp [hs])
    have h2 := h s (by simp)
    have h3 : cnt (s :: p) = s.2.length + cnt p := by simp [cnt]
    rw [h3, List.length_cons, Nat.mul_succ]; omega
theorem Zcsi {u : Upd} (h : SzU u) : FitA (Zca (fewU u)) := by
  have hp : (Zca (fewU u)).path = u.2.2.2.1.take 8 := rfl; have ho : (Zca (fewU u)).others = u.2.2.2.2.2.2.2.2.2.2.2.2.2.2.1.take 10 := rfl; have h8 : (u.2.2.2.1.take 8).length <= 8 := by simp only [List.length_take]; omega
  have hs : ∀ s ∈ u.2.2.2.1.take 8, s.2.length <= 35184372088736 := fun s hs => h.1 s (List.mem_of_mem_take hs); have hc := Zboe _ _ hs; have hm : 35184372088736 * (u.2.2.2.1.take 8).length <= 35184372088736 * 8 := Nat.mul_le_mul_left _ h8; refine ⟨by rw [hp]; omega, by rw [hp]; omega, fun s hm => ?_, ?_⟩
  rw [hp] at hm; have := hs s hm; omega; rw [ho]; simp only [List.length_take]; omega
end Go.Proofs.YtboagabgpcghcaaGreatDoor
set_option maxRecDepth 100000
namespace Go.Proofs.YtboagabgpcghcaaGreatDoor
open Go.Sh
theorem Zche : Ziz false [0, 2, 8, 10, 0, 0] = (mkU [(167772160, 8)] [] Zcp 0, (0, 0, []), true) := by rfl
theorem Zctv (K : Bool -> Prop) (h : K true) : Zxx K := by
  unfold Zxx; have e1 : (ofI .u32 167772160 : UInt32) = 167772160 := rfl; have e2 : (ofI .u32 0 : UInt32) = 0 := rfl; rw [e1, e2]; refine fun _ => Zbtr exU false _ (by decide) (by decide) ⟨by decide, by decide, by decide, by decide⟩ ?_
  rw [Zcfy]; refine fun _ _ => Zbxu _ false _ (by decide) ?_
  rw [Zche]; refine fun _ => ifT rfl fun _ => ?_; unfold Zbcb; refine fun _ => ifT rfl (ifT rfl (ifT rfl ⟨by decide, AtN.of rfl fun _ => ifT rfl ⟨by decide, AtN.of rfl fun _ _ => ?_⟩⟩))
  simp only [Zel]; refine Zcow 167772160 8 _ ?_; rw [Zcjo]; exact fun _ => h
theorem Zcqd : FitA Zcp := ⟨by decide, by decide, fun s hs => by simp [Zcp, Za.path] at hs, by decide⟩
end Go.Proofs.YtboagabgpcghcaaGreatDoor
set_option maxRecDepth 100000
namespace Go.Proofs.YtboagabgpcghcaaGreatDoor
open Go.Sh
theorem Zbuu (s t : List Pf) (K : Bool -> Prop) (hl : s.length <= 9223372036854775807) (h : K (s == t)) : Zqy s t K := by
  unfold Zqy; refine IfB.intro (fun h1 => of_eq h (Zxg h1)) (fun h1 => ?_); have h1 := Zqa h1; refine Zm.over s (fun pre => ((pre.length : Int), ())) (fun pre => pre = t.take pre.length) rfl rfl (fun pre x post hp hn hP next hx => ?_) (fun hP next _ => ?_)
  . intro _; dsimp only [Zbif]; have hlt : pre.length < t.length := by omega
    refine ifT (decide_eq_true (by omega)) ⟨by omega, AtN.of (Zbs hp) fun _ => ⟨by omega, AtN.of (at_len hlt) fun _ => ?_⟩⟩
    refine IfB.intro (fun g => of_eq h (mism hp (List.getElem?_eq_getElem hlt) fun e => ?_)) (fun g => of_eq (hx ?_) ?_); rw [e] at g; simp at g; refine Zoj hP ?_; rw [List.getElem?_eq_getElem hlt]; congr 1; simp at g; exact (Prod.ext (UInt32.toNat_inj.1 (by omega)) g.2).symm
    . rw [Zj (by omega) (by omega)]; simp
  dsimp only [Zbif]; exact ifF (decide_eq_false (by omega)) (of_eq h (Zno hP h1))
theorem Zbmx (u v : Upd) (K : Bool -> Prop) (h1 : u.1.length <= 9223372036854775807) (h2 : u.2.1.length <= 9223372036854775807) (hf : FitA (Zca u)) (hc : (Zca u).comms.length <= 9223372036854775807)
    (h : K (u.1 == v.1 && (u.2.1 == v.2.1 && (Zdv (Zca u) (Zca v) && u.2.2.2.2.2.2.2.2.2.2.2.2.2.2.2 == v.2.2.2.2.2.2.2.2.2.2.2.2.2.2.2)))) : Zzu u v K := by
  unfold Zzu; simp only [Zel]; refine fun _ => Zbuu _ _ _ h1 fun _ => IfB.intro (fun g _ => Zbuu _ _ _ h2 fun _ => IfB.intro (fun g2 _ => Zcrk (Zca u) (Zca v) _ hf.p1 hf.p3 hc hf.o1 fun _ => IfB.intro (fun g3 => of_eq h ?_) (fun g3 => of_eq h ?_)) (fun g2 => of_eq h ?_)) (fun g => of_eq h ?_); rw [g, g2, g3]; rfl; rw [g, g2, g3]; rfl; rw [g, g2]; rfl; rw [g]; rfl
def Zbvk (a : Za) : Za := (a.origin, a.path, a.next, a.hasMed, a.med, false, a.loc, a.atomic, a.hasMaker, a.makerAS, a.maker, a.comms, a.others)
theorem Zcrx (a : Za) : Zdv (Zbvk a) (Zgm a) = true := by obtain ⟨origin, path, nxt, hasMed, med, hasLocal, loc, atomic, hasMaker, makerAS, maker, comms, others⟩ := a; simp only [Zdv, Zbvk, Zgm, Za.origin, Za.path, Za.next, Za.hasMed, Za.med, Za.hasLocal, Za.loc, Za.atomic, Za.hasMaker, Za.makerAS, Za.maker, Za.comms, Za.others, beq_self_eq_true, Bool.true_and, Bool.and_true]; cases hasMed <;> cases hasMaker <;> simp [perh]
theorem Zbli (w a t : List UInt8) : (Zgc w a t).1.length <= 5000 ∧ ((Zgc w a t).2 ≠ 0 -> (Zgc w a t).1 = []) := by unfold Zgc; split; exact ⟨Nat.zero_le _, fun _ => rfl⟩; exact ⟨by simp only [List.length_append, Zbha]; omega, fun h => absurd rfl h⟩
theorem Zbyr (u : Upd) (four : Bool) : (updR u four).1.length <= 5000 ∧ ((updR u four).2 ≠ 0 -> (updR u four).1 = []) := by unfold updR; split; split; split; exact Zbli _ _ _; exact ⟨Nat.zero_le _, fun _ => rfl⟩; exact Zbli _ _ _; exact ⟨Nat.zero_le _, fun _ => rfl⟩
def cutU (u : Upd) (j : Bool) : Upd := (u.1, u.2.1, u.2.2.1, u.2.2.2.1, u.2.2.2.2.1, u.2.2.2.2.2.1, u.2.2.2.2.2.2.1, false, u.2.2.2.2.2.2.2.2.1, u.2.2.2.2.2.2.2.2.2.1, j, u.2.2.2.2.2.2.2.2.2.2.2.1, u.2.2.2.2.2.2.2.2.2.2.2.2.1, u.2.2.2.2.2.2.2.2.2.2.2.2.2.1, u.2.2.2.2.2.2.2.2.2.2.2.2.2.2.1, 0)
theorem Zcle (u : Upd) (four : Bool) (hs : SzU u) : Zbhe u four fun r => r = true := by
  unfold Zbhe; simp only [Zel]; refine fun _ => Zctv _ fun _ => ifF rfl fun _ => Zcit u _ hs fun _ => ?_; have hf := Zcsi hs; have l1 : (fewU u).1.length <= 40 := by simp only [fewU, List.length_take]; omega
  have l2 : (fewU u).2.1.length <= 40 := by simp only [fewU, List.length_take]; omega
  have l3 : (Zca (fewU u)).comms.length <= 40 := by show ((u.2.2.2.2.2.2.2.2.2.2.2.2.2.1.take 40).length) <= 40; simp only [List.length_take]; omega
  generalize fewU u = x at *; have key : ∀ j : Bool, (four = false -> j = false) -> Ztl four x j fun r => r = true := fun j hj => by
    unfold Ztl; simp only [Zel]; have hfj : FitA (Zca (cutU x j)) := ⟨hf.p1, hf.p2, hf.p3, hf.o1⟩; refine fun _ => Zbtr (cutU x j) four _ (by show x.1.length <= _; omega) (by show x.2.1.length <= _; omega) hfj fun _ => ?_
    obtain ⟨q1, q2⟩ := Zbyr (cutU x j) four; refine IfB.intro (fun g => ?_) (fun g _ => ?_)
    . have g : (updR (cutU x j) four).2 ≠ 0 := by simpa using g
      rw [q2 g]; rfl
    . have g : (updR (cutU x j) four).2 = 0 := by simpa using g
      refine Zbxu _ four _ (by omega) ?_
      rw [Zcls g hj]; refine fun _ => IfB.intro (fun g1 => ?_) (fun g1 => ?_)
      . have g1 : ¬ 0 < x.2.1.length := by
          have : (x.2.1.length : Int) = 0 := by simpa using g1
          omega
        have e : (if 0 < (cutU x j).2.1.length then Zgm (Zca (cutU x j)) else Zcp) = Zcp := if_neg g1
        rw [e]; unfold Zvc; simp only [Zel]; refine ifT rfl fun _ => Zbmx (mkU x.1 x.2.1 Zcp 0) (mkU x.1 x.2.1 Zcp 0) _ (by show x.1.length <= _; omega) (by show x.2.1.length <= _; omega) Zcqd (show (0 : Nat) <= _ from Nat.zero_le _) fun _ => ?_
        simp only [beq_self_eq_true, Bool.true_and, Bool.and_true]; exact Zbyq Zcp
      . have g1 : 0 < x.2.1.length := by
          have : ¬ (x.2.1.length : Int) = 0 := by simpa using g1
          omega
        have e : (if 0 < (cutU x j).2.1.length then Zgm (Zca (cutU x j)) else Zcp) = Zgm (Zca (cutU x j)) := if_pos g1
        rw [e]; unfold Zvc; simp only [Zel]; refine ifT rfl fun _ => Zbmx (cutU x j) (mkU x.1 x.2.1 (Zgm (Zca (cutU x j))) 0) _ (by show x.1.length <= _; omega) (by show x.2.1.length <= _; omega) hfj (by show (Zca x).comms.length <= _; omega) fun _ => ?_
        have e1 : Zdv (Zca (cutU x j)) (Zca (mkU x.1 x.2.1 (Zgm (Zca (cutU x j))) 0)) = true := Zcrx (Zca (cutU x j)); rw [e1]; show (x.1 == x.1 && (x.2.1 == x.2.1 && (true && (0 : Int) == 0))) = true; simp
  exact IfB.intro (fun _ => key four fun h => h) (fun _ => key false fun _ => rfl)
end Go.Proofs.YtboagabgpcghcaaGreatDoor
end
