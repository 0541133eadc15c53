/-
  SOME FUNCTIONS IN PLAIN LOGIC: printed by a program of ours over this translation.
  What is known of the package-level variables that the law of texts comes to.
  A function of the library, by what is known of its calls: strconv.Itoa.
  A function of the library, by what is known of its calls: strings.Join.
  The first bits of an address, in numbers.
  What upd.prefixes gives.
  What slices.Chunk gives.
-/
import Derived.Test.YtboagabgpcghcaaDoorNum
import Derived.Test.YtboagabgpcghcaaDoorRows
import Derived.Test.YtboagabgpcghcaaDoorShelf
import Derived.Test.YtboagabgpcghcaaDoorPw16
import Derived.Test.YtboagabgpcghcaaDoorHm2
import Derived.Test.YtboagabgpcghcaaDoorHm1
import Derived.Test.YtboagabgpcghcaaDoorHeapU
set_option linter.all false
section
set_option maxRecDepth 100000
namespace Go.Proofs.YtboagabgpcghcaaDoor
open Go.Sh
def hplan_zz18 : Plan := ⟨[], [], [], []⟩
theorem hk_zz18 : Known Tryd.prog f_zz18 Tryd.f18 hplan_zz18 (bodyOf Tryd.f18) := by refine ⟨Tryd.func18, ?_, ?_, ?_, ?_, ?_⟩ <;> kernel_rfl
def zz18_p (a0 : Int) (n1 : Int) (H : Heap) (R : Value -> Heap -> Prop) : Prop :=
 (0 : Int) <= (IntKind.wrap .i64 (32 - n1)) ∧
 R (Value.int .u32 (bitsAndNot .u32 a0 (IntKind.wrap .u32 (IntKind.wrap .u64 ((IntKind.wrap .u64 (1 * 2 ^ (min ((IntKind.wrap .i64 (32 - n1)) : Int).toNat (IntKind.bits .u64)))) - 1))))) H
theorem zz18_heq (a0 : Int) (n1 : Int) (H : Heap) (R : Value -> Heap -> Prop) : zz18_p a0 n1 H R = CodeW Tryd.prog hplan_zz18 (bodyOf Tryd.f18) (env0 [(Value.int .u32 a0), (Value.int .i64 n1)]) H (RetW Tryd.prog Tryd.f18.results.toList R) := by kernel_rfl
theorem zz18_sh (a0 : Int) (n1 : Int) {H : Heap} {R : Value -> Heap -> Prop} (h : zz18_p a0 n1 H fun v H1 => ∀ H2, Shut H H1 H2 -> R v H2) : FnW Tryd.prog f_zz18 ⟨[(Value.int .u32 a0), (Value.int .i64 n1)]⟩ H R := FnW.of_code hk_zz18 (by kernel_rfl) (Eq.mp (zz18_heq a0 n1 H _) h)
def hplan_zz19 : Plan := ⟨[], [], [], []⟩
theorem hk_zz19 : Known Tryd.prog f_zz19 Tryd.f32 hplan_zz19 (bodyOf Tryd.f32) := by refine ⟨Tryd.func32, ?_, ?_, ?_, ?_, ?_⟩ <;> kernel_rfl
def zz19_p (n0 : Int) (H : Heap) (R : Value -> Heap -> Prop) : Prop :=
 (8 : Int) ≠ 0 ∧
 R (Value.int .i64 (IntKind.wrap .i64 (Int.tdiv (IntKind.wrap .i64 ((IntKind.wrap .i64 (n0 + 8)) - 1)) 8))) H
theorem zz19_heq (n0 : Int) (H : Heap) (R : Value -> Heap -> Prop) : zz19_p n0 H R = CodeW Tryd.prog hplan_zz19 (bodyOf Tryd.f32) (env0 [(Value.int .i64 n0)]) H (RetW Tryd.prog Tryd.f32.results.toList R) := by kernel_rfl
theorem zz19_sh (n0 : Int) {H : Heap} {R : Value -> Heap -> Prop} (h : zz19_p n0 H fun v H1 => ∀ H2, Shut H H1 H2 -> R v H2) : FnW Tryd.prog f_zz19 ⟨[(Value.int .i64 n0)]⟩ H R := FnW.of_code hk_zz19 (by kernel_rfl) (Eq.mp (zz19_heq n0 H _) h)
def hplan_zz55 : Plan := ⟨[], [(0, [], [], [0, 1]), (7, [5, 34], [.int .u32, .int .i64], [0, 1, 3, 4, 32, 33])], [], []⟩
theorem hk_zz55 : Known Tryd.prog f_zz55 Tryd.f52 hplan_zz55 (bodyOf Tryd.f52) := by refine ⟨Tryd.func52, ?_, ?_, ?_, ?_, ?_⟩ <;> kernel_rfl
def zz55_l7 (l : Nat) (b1 : Nat) (x13 : Int) (x16 : Int) (x29c : Nat) (x32l : Nat) (x29a : Option Addr) (x32h : Nat) (next0 : (Unit) -> Heap -> Prop) (a5 : Int) (x34 : Int) (H5 : Heap) (next7 : (Int × Int × Unit) -> Heap -> Prop) (R : Value -> Heap -> Prop) : Prop :=
 IfB (decide ((x34 : Int) < ((x32h - x32l : Nat) : Int)))
 (NilP (if x29c = x32l then x29a else Option.map (fun a => Addr.add a (x32l * 1)) x29a) fun x37q =>
 InB x34 (x32h - x32l) fun x37i =>
 elemAt x37q x37i 1 fun x37p =>
 ∃ x38 : Int, H5.cell x37p = some (Value.int .u8 x38) ∧
 (0 : Int) <= (IntKind.wrap .i64 (24 - (IntKind.wrap .i64 (8 * x34)))) ∧
 next7 ((bitsOr .u32 a5 (IntKind.wrap .u32 ((IntKind.wrap .u32 x38) * 2 ^ (min ((IntKind.wrap .i64 (24 - (IntKind.wrap .i64 (8 * x34)))) : Int).toNat (IntKind.bits .u32))))), ((IntKind.wrap .i64 (x34 + 1)), ())) H5)
 (FnW Tryd.prog f_zz18 ⟨[(Value.int .u32 a5), (Value.int .i64 (IntKind.wrap .i64 x13))]⟩ H5 fun x51v H6 =>
 ∃ x51 : Int, x51v = (Value.int .u32 x51) ∧
 YieldW Tryd.prog l [(Value.agg ⟨[(Value.int .u32 x51), (Value.int .i64 (IntKind.wrap .i64 x13))]⟩), (Value.bool true)] H6 fun x54v H7 =>
 ∃ x54 : Bool, x54v = (Value.bool x54) ∧
 IfB (!x54)
 (R (Value.tuple ⟨[]⟩) H7)
 (∃ (x56a : Option Addr) (x56n x56c : Nat), H7.cell ⟨b1, 0, none⟩ = some (Value.slice x56a x56n x56c) ∧
 InC (IntKind.wrap .i64 (1 + x16)) x56n fun x59l =>
 StCell H7 ⟨b1, 0, none⟩ (Value.slice (if x56c = x59l then x56a else Option.map (fun a => Addr.add a (x59l * 1)) x56a) (x56n - x59l) (x56c - x59l)) fun H8 =>
 next0 () H8))
def zz55_j0 (l : Nat) (b1 : Nat) (x13 : Int) (x16 : Int) (next0 : (Unit) -> Heap -> Prop) (x25 : Bool) (H3 : Heap) (R : Value -> Heap -> Prop) : Prop :=
 IfB x25
 (YieldW Tryd.prog l [(Value.agg ⟨[(Value.int .u32 0), (Value.int .i64 0)]⟩), (Value.bool false)] H3 fun x28v H4 =>
 ∃ x28 : Bool, x28v = (Value.bool x28) ∧
 R (Value.tuple ⟨[]⟩) H4)
 (∃ (x29a : Option Addr) (x29n x29c : Nat), H3.cell ⟨b1, 0, none⟩ = some (Value.slice x29a x29n x29c) ∧
 InC (IntKind.wrap .i64 (1 + x16)) x29c fun x32h =>
 InC 1 x32h fun x32l =>
 LoopI (Int × Int × Unit) (0, (0, ())) H3 fun x H next => ∀ _g : Env, zz55_l7 l b1 x13 x16 x29c x32l x29a x32h next0 x.1 x.2.1 H next R)
def zz55_l0 (l : Nat) (b1 : Nat) (H1 : Heap) (next0 : (Unit) -> Heap -> Prop) (R : Value -> Heap -> Prop) : Prop :=
 ∃ (x8a : Option Addr) (x8n x8c : Nat), H1.cell ⟨b1, 0, none⟩ = some (Value.slice x8a x8n x8c) ∧
 IfB (decide (((x8n : Int) : Int) > 0))
 (∃ (x11a : Option Addr) (x11n x11c : Nat), H1.cell ⟨b1, 0, none⟩ = some (Value.slice x11a x11n x11c) ∧
 NilP x11a fun x12q =>
 InB 0 x11n fun x12i =>
 elemAt x12q x12i 1 fun x12p =>
 ∃ x13 : Int, H1.cell x12p = some (Value.int .u8 x13) ∧
 FnW Tryd.prog f_zz19 ⟨[(Value.int .i64 (IntKind.wrap .i64 x13))]⟩ H1 fun x16v H2 =>
 ∃ x16 : Int, x16v = (Value.int .i64 x16) ∧
 IfB (decide (((IntKind.wrap .i64 x13) : Int) > 32))
 (zz55_j0 l b1 x13 x16 next0 true H2 R)
 (∃ (x21a : Option Addr) (x21n x21c : Nat), H2.cell ⟨b1, 0, none⟩ = some (Value.slice x21a x21n x21c) ∧
 zz55_j0 l b1 x13 x16 next0 (decide ((x16 : Int) > (IntKind.wrap .i64 ((x21n : Int) - 1)))) H2 R))
 (R (Value.tuple ⟨[]⟩) H1)
def zz55_p (l : Nat) (b1 : Nat) (H : Heap) (R : Value -> Heap -> Prop) : Prop :=
 LoopI (Unit) () H fun x H next => ∀ _g : Env, zz55_l0 l b1 H next R
theorem zz55_heq (l : Nat) (b1 : Nat) (H : Heap) (R : Value -> Heap -> Prop) : zz55_p l b1 H R = CodeW Tryd.prog hplan_zz55 (bodyOf Tryd.f52) (env0 [(Value.func (.yield l) #[] #[]), (Value.pointer (some ⟨b1, 0, none⟩))]) H (RetW Tryd.prog Tryd.f52.results.toList R) := by kernel_rfl
theorem zz55_sh (l : Nat) (b1 : Nat) {H : Heap} {R : Value -> Heap -> Prop} (h : zz55_p l b1 H fun v H1 => ∀ H2, Shut H H1 H2 -> R v H2) : FnW Tryd.prog f_zz55 ⟨[(Value.func (.yield l) #[] #[]), (Value.pointer (some ⟨b1, 0, none⟩))]⟩ H R := FnW.of_code hk_zz55 (by kernel_rfl) (Eq.mp (zz55_heq l b1 H _) h)
def hplan_zz57 : Plan := ⟨[], [(1, [4], [.int .i64], [0, 1, 2])], [], []⟩
theorem hk_zz57 : Known Tryd.prog f_zz57 Tryd.f96 hplan_zz57 (bodyOf Tryd.f96) := by refine ⟨Tryd.func96, ?_, ?_, ?_, ?_, ?_⟩ <;> kernel_rfl
def zz57_l1 (l : Nat) (b1 : Nat) (b2 : Nat) (i4 : Int) (H1 : Heap) (next1 : (Int × Unit) -> Heap -> Prop) (R : Value -> Heap -> Prop) : Prop :=
 ∃ (x7a : Option Addr) (x7n x7c : Nat), H1.cell ⟨b1, 0, none⟩ = some (Value.slice x7a x7n x7c) ∧
 IfB (decide ((i4 : Int) < (x7n : Int)))
 (∃ x13 : Int, H1.cell ⟨b2, 0, none⟩ = some (Value.int .i64 x13) ∧
 ∃ (x14a : Option Addr) (x14n x14c : Nat), H1.cell ⟨b1, 0, none⟩ = some (Value.slice x14a x14n x14c) ∧
 InC i4 x14n fun x16l =>
 ∃ (x20a : Option Addr) (x20n x20c : Nat), H1.cell ⟨b1, 0, none⟩ = some (Value.slice x20a x20n x20c) ∧
 InC (IntKind.wrap .i64 (i4 + (min x13 ((x14n - x16l : Nat) : Int)))) x20c fun x28m =>
 InC (IntKind.wrap .i64 (i4 + (min x13 ((x14n - x16l : Nat) : Int)))) x28m fun x28h =>
 InC i4 x28h fun x28l =>
 YieldW Tryd.prog l [(Value.slice (if x28m = x28l then x20a else Option.map (fun a => Addr.add a (x28l * 1)) x20a) (x28h - x28l) (x28m - x28l))] H1 fun x29v H2 =>
 ∃ x29 : Bool, x29v = (Value.bool x29) ∧
 IfB (!x29)
 (R (Value.tuple ⟨[]⟩) H2)
 (∃ x11 : Int, H2.cell ⟨b2, 0, none⟩ = some (Value.int .i64 x11) ∧
 next1 ((IntKind.wrap .i64 (i4 + x11)), ()) H2))
 (R (Value.tuple ⟨[]⟩) H1)
def zz57_p (l : Nat) (b1 : Nat) (b2 : Nat) (H : Heap) (R : Value -> Heap -> Prop) : Prop :=
 LoopI (Int × Unit) (0, ()) H fun x H next => ∀ _g : Env, zz57_l1 l b1 b2 x.1 H next R
theorem zz57_heq (l : Nat) (b1 : Nat) (b2 : Nat) (H : Heap) (R : Value -> Heap -> Prop) : zz57_p l b1 b2 H R = CodeW Tryd.prog hplan_zz57 (bodyOf Tryd.f96) (env0 [(Value.func (.yield l) #[] #[]), (Value.pointer (some ⟨b1, 0, none⟩)), (Value.pointer (some ⟨b2, 0, none⟩))]) H (RetW Tryd.prog Tryd.f96.results.toList R) := by kernel_rfl
theorem zz57_sh (l : Nat) (b1 : Nat) (b2 : Nat) {H : Heap} {R : Value -> Heap -> Prop} (h : zz57_p l b1 b2 H fun v H1 => ∀ H2, Shut H H1 H2 -> R v H2) : FnW Tryd.prog f_zz57 ⟨[(Value.func (.yield l) #[] #[]), (Value.pointer (some ⟨b1, 0, none⟩)), (Value.pointer (some ⟨b2, 0, none⟩))]⟩ H R := FnW.of_code hk_zz57 (by kernel_rfl) (Eq.mp (zz57_heq l b1 b2 H _) h)
end Go.Proofs.YtboagabgpcghcaaDoor
end
section
namespace Go.Proofs.YtboagabgpcghcaaDoor
open Go.Sh
def powCells : Array Value := (Lib.pow10Tab.map fun z => Value.int .u64 z).toArray
instance : Laid where
  blocks := fun b => Nat.beq b g_internal_strconv_uint64pow10
  ok := fun L => ∃ T fr, L g_internal_strconv_uint64pow10 = some (.cells powCells T fr)
theorem laid_pow {W : World} (h : Laid.ok (layH (hp W))) : ∃ T fr, W.heap[g_internal_strconv_uint64pow10]? = some (.cells powCells T fr) := h
theorem rest_of {W W' : World} (h1 : W'.os = W.os) (h2 : W'.tape = W.tape) (h3 : W'.output = W.output) (h : ∀ (b : Nat) o, W.heap[b]? = some o -> W'.heap[b]? = some o) : Go.Sh.Rest W W' := by
  refine ⟨h1, h2, h3, fun b ds hb => h b _ hb, ?_⟩; cases hs : W.heap.size with
  | zero => omega
  | succ n =>
    have := h n _ (Array.getElem?_eq_getElem (by omega))
    have := (Array.getElem?_eq_some_iff.1 this).1; omega
end Go.Proofs.YtboagabgpcghcaaDoor
namespace Go.Proofs.YtboagabgpcghcaaDoor
open Go.Sh
theorem pow_named : Tryd.prog.globalNamed "internal/strconv.uint64pow10" = some g_internal_strconv_uint64pow10 := by kernel_rfl
abbrev strconv_Itoa_ps : List Pk := [Pk.int .i64]
abbrev strconv_Itoa_rs : List Pk := [Pk.str]
def strconv_Itoa_q (n : Int) (K : List UInt8 -> Prop) : Prop := K (Lib.itoa n)
theorem itoa_len (n : Int) (h0 : -9223372036854775808 <= n) (h1 : n <= 9223372036854775807) : (Lib.itoa n).length <= lenMax := by
  have hd : ∀ u : Nat, (Lib.decDigits u).length <= u + 1 := by
    intro u; induction u using Nat.strongRecOn with
    | _ u ih =>
      unfold Lib.decDigits; split; simp
      . have := ih (u / 10) (by omega)
        simp only [List.length_append, List.length_cons, List.length_nil]; omega
  have hd2 : ∀ u : Nat, u < 9223372036854775809 -> (Lib.decDigits u).length <= 100000000000000000 + 1 := by intro u hu; unfold Lib.decDigits; split; simp; have h2 := hd (u / 10 / 10); unfold Lib.decDigits; split; simp; simp only [List.length_append, List.length_cons, List.length_nil]; omega
  unfold Lib.itoa lenMax; split
  . have := hd2 n.natAbs (by omega)
    simp only [List.length_cons]; omega
  . have := hd2 n.toNat (by omega)
    omega
theorem strconv_Itoa_fq : FnQ Tryd.prog f_strconv_Itoa strconv_Itoa_ps strconv_Itoa_rs (fun x K => strconv_Itoa_q x.1 (fun r0 => K (r0, ()))) := by
  refine fnQ_lib rfl ⟨_, Tryd.func23, by kernel_rfl, by kernel_rfl⟩ fun x K hx W g vs hz hs hl => ?_
  simp only [pksA, pkA] at hs; cases vs with
  | nil => simp only [SimL] at hs
  | cons v vs =>
    simp only [SimL, SimV] at hs; obtain ⟨⟨rfl, hr⟩, hs⟩ := hs; cases vs with
    | cons => simp only [SimL] at hs
    | nil =>
      obtain ⟨T, fr, hg⟩ := laid_pow hl; have htab : Lib.TabIs Tryd.prog W "internal/strconv.uint64pow10" .u64 Lib.pow10Tab := by
        unfold Lib.TabIs World.var?
        rw [pow_named]; simp only [Option.bind_some, hg]; rfl
      simp only [InR, loI, hiI] at hr; refine (Tryd.strconv_Itoa x.1 hr.1 hr.2 W htab).mono fun e W' ⟨he, k, os, hw⟩ => ?_; refine ⟨(Lib.itoa x.1, ()), _, he, ?_, hx, ?_, ?_⟩; simp only [pksA, pkA, outA, SimV, bstr]; exact ⟨trivial, itoa_len _ hr.1 hr.2⟩
      . subst hw; have hsm : ∀ b, hp W b ≠ none -> hp (Go.Sort.grow (W.drewN k) os) b = hp W b := fun b hb => by simp only [hp, Go.Sort.grow, World.heap_drewN] at hb ⊢; rw [Array.getElem?_append]; rw [if_pos]; rcases Nat.lt_or_ge b W.heap.size with h | h; exact h; exact absurd (by simp [h]) hb
        exact ⟨fun b _ hb => hsm b hb, fun b hb => by rw [hsm b hb]; exact hb⟩
      . subst hw; exact rest_of rfl rfl rfl fun b o h => by simp only [Go.Sort.grow, World.heap_drewN]; rw [Array.getElem?_append, if_pos (Array.getElem?_eq_some_iff.1 h).1]; exact h
noncomputable def ct_strconv_Itoa : Ct := ctRd strconv_Itoa_ps strconv_Itoa_rs (fun x K => strconv_Itoa_q x.1 (fun r0 => K (r0, ())))
theorem ct_strconv_Itoa_ok : SoundCt Tryd.prog f_strconv_Itoa ct_strconv_Itoa := ctRd_sound strconv_Itoa_fq
end Go.Proofs.YtboagabgpcghcaaDoor
namespace Go.Proofs.YtboagabgpcghcaaDoor
open Go.Sh
abbrev strings_Join_ps : List Pk := [Pk.lst [Kd.str], Pk.str]
abbrev strings_Join_rs : List Pk := [Pk.str]
def strings_Join_q (xs : List (List UInt8)) (sep : List UInt8) (K : List UInt8 -> Prop) : Prop := xs.length <= 140737488355328 ∧ (Lib.join xs sep).length <= 140737488355328 ∧ K (Lib.join xs sep)
theorem join_calls {W : World} {g : Gh} {xs : List (List UInt8)} {sep : List UInt8} {v : Value} (hv : CellOk g.Z (hp W) (.lst [.str]) xs v) (h1 : xs.length <= 140737488355328) (h2 : (Lib.join xs sep).length <= 140737488355328) :
    Calls Tryd.prog f_strings_Join ⟨[v, .string (bstr sep)]⟩ W fun e W' => e = .returned (.string (bstr (Lib.join xs sep))) ∧ Go.RowKit.Below W.heap.size W W' := by
  simp only [CellOk] at hv; obtain ⟨a, n, c, rfl, hn, hnc, hcm, hc⟩ := hv; have hn : xs.length = n := hn; rcases Nat.eq_zero_or_pos n with h0 | h0; subst h0; have hnil : xs = [] := List.eq_nil_of_length_eq_zero hn; refine (Tryd.strings_Join_none a c (bstr sep) W).mono fun e W' ⟨he, hw⟩ => ⟨?_, ?_⟩; rw [he, hnil]; rfl; subst hw; exact .refl _ _
  . obtain ⟨b, o, rfl, hzb, cs, T, fr, hb, hcs⟩ := hc h0; have hbs : b < W.heap.size := by
      rcases Nat.lt_or_ge b W.heap.size with h | h; exact h
      . have : hp W b = none := by simp [hp, h]
        rw [this] at hb; cases hb
    have hmap : (xs.map bstr).map (·.data.toList) = xs := by
      rw [List.map_map]
      conv => rhs; rw [← List.map_id xs]
      exact List.map_congr_left fun s _ => by simp [bstr]
    have := Tryd.strings_Join b o c (xs.map bstr) (bstr sep) W (fun j s hj => by
      rw [List.getElem?_map] at hj; cases hx : xs[j]? with
      | none => rw [hx] at hj; cases hj
      | some t =>
        rw [hx] at hj; cases hj; have h3 := hcs j t hx; simp only [CellsOk, CellOk] at h3; obtain ⟨⟨v, h4, h5, _⟩, _⟩ := h3; simp only [List.length_cons, List.length_nil, Nat.zero_add, Nat.mul_one, Nat.add_zero] at h4; have hb' : W.heap[b]? = some (.cells cs T fr) := hb; simp only [World.cell?, hb', Option.isSome_none, Bool.false_eq_true, if_false]; rw [h4, h5]; rfl) hbs (by simpa using h1) (by simp; omega) (by
        rw [hmap]; exact h2)
    rw [hmap] at this; have e1 : (xs.map bstr).length = n := by simp [hn]
    rw [e1] at this; exact this
theorem strings_Join_fq : FnQ Tryd.prog f_strings_Join strings_Join_ps strings_Join_rs (fun x K => strings_Join_q x.1 x.2.1 (fun r0 => K (r0, ()))) := by
  refine fnQ_lib rfl ⟨_, Tryd.func24, by kernel_rfl, by kernel_rfl⟩ fun x K hx W g vs hz hs hl => ?_
  simp only [pksA, pkA, isOwn] at hs; cases vs with
  | nil => simp only [SimL] at hs
  | cons v vs =>
  cases vs with
  | nil => simp only [SimL] at hs; exact hs.2.elim
  | cons u vs =>
  cases vs with
  | cons => simp only [SimL] at hs; exact hs.2.2.elim
  | nil =>
    simp only [SimL, SimV] at hs; obtain ⟨hv, ⟨rfl, _⟩, _⟩ := hs; obtain ⟨h1, h2, hk⟩ := hx; refine (join_calls hv h1 h2).mono fun e W' ⟨he, hb⟩ => ?_; obtain ⟨hkp, hr⟩ := keep_below hb; refine ⟨(Lib.join x.1 x.2.1, ()), _, he, ?_, hk, hkp, hr⟩; simp only [pksA, pkA, outA, SimV]; exact ⟨trivial, by unfold lenMax; omega⟩
noncomputable def ct_strings_Join : Ct := ctRd strings_Join_ps strings_Join_rs (fun x K => strings_Join_q x.1 x.2.1 (fun r0 => K (r0, ())))
theorem ct_strings_Join_ok : SoundCt Tryd.prog f_strings_Join ct_strings_Join := ctRd_sound strings_Join_fq
end Go.Proofs.YtboagabgpcghcaaDoor
namespace Go.Proofs.YtboagabgpcghcaaDoor
open Go.Sh
theorem wi64n (a : Nat) (h : a <= 9223372036854775807) : IntKind.wrap .i64 (a : Int) = (a : Int) := wr_i64 (by omega) (by omega)
theorem notBits (n a : Nat) (ha : a < 2 ^ n) (k : Nat) (hk : k <= n) : a &&& (2 ^ n - 1 - (2 ^ k - 1)) = a - a % 2 ^ k := by
  have hpk : 2 ^ k <= 2 ^ n := Nat.pow_le_pow_right (by decide) hk
  have h0 : 0 < 2 ^ k := Nat.two_pow_pos k; apply Nat.eq_of_testBit_eq; intro i; rw [Nat.testBit_and, show 2 ^ n - 1 - (2 ^ k - 1) = 2 ^ n - ((2 ^ k - 1) + 1) by omega, Nat.testBit_two_pow_sub_succ (by omega), Nat.testBit_two_pow_sub_one]
  have e : a - a % 2 ^ k = 2 ^ k * (a / 2 ^ k) := by have := Nat.div_add_mod a (2 ^ k); omega
  rw [e, Nat.testBit_two_pow_mul]; by_cases hi : i < k; simp [hi]; intro _; omega
  . rw [Nat.testBit_div_two_pow, show i - k + k = i by omega]
    by_cases hn : i < n; simp [hi, hn]; omega
    . have : a.testBit i = false := Nat.testBit_lt_two_pow (Nat.lt_of_lt_of_le ha (Nat.pow_le_pow_right (by decide) (by omega)))
      simp [this]
theorem andNot_low (a : Nat) (ha : a < 4294967296) (k : Nat) (hk : k <= 32) : bitsAndNot .u32 (a : Int) ((2 ^ k - 1 : Nat) : Int) = ((a - a % 2 ^ k : Nat) : Int) := by
  have hp : 2 ^ k <= 2 ^ 32 := Nat.pow_le_pow_right (by decide) hk
  have h0 : 0 < 2 ^ k := Nat.two_pow_pos k; have e32 : (2 : Nat) ^ 32 = 4294967296 := rfl; unfold bitsAndNot; have hb : IntKind.bits .u32 = 32 := rfl; rw [hb, bv_nat 32 a (by omega), bv_nat 32 (2 ^ k - 1) (by omega), BitVec.toNat_and, BitVec.toNat_not, BitVec.toNat_ofNat, BitVec.toNat_ofNat, Nat.mod_eq_of_lt (by omega), Nat.mod_eq_of_lt (by omega)]
  rw [notBits 32 a (by omega) k hk, wu32 (by omega)]
def hostBits (n : Nat) : Nat := 2 ^ (32 - n)
theorem wu64n (a : Nat) (h : a < 18446744073709551616) : IntKind.wrap .u64 (a : Int) = (a : Int) := by rw [wr_u64]; omega
end Go.Proofs.YtboagabgpcghcaaDoor
set_option maxHeartbeats 1000000
namespace Go.Proofs.YtboagabgpcghcaaDoor
open Go.Sh
abbrev PfB := (UInt32 × Int) × Bool × Unit
def oct8 (n : Nat) : Nat := (n + 7) / 8
def pxStep (a : Int) (j : Nat) (x : UInt8) : Int := bitsOr .u32 a (IntKind.wrap .u32 (IntKind.wrap .u32 (x.toNat : Int) * 2 ^ (min (24 - 8 * j) 32)))
def pxF : Nat -> Int -> List UInt8 -> Int
  | _, a, [] => a
  | j, a, x :: r => pxF (j + 1) (pxStep a j x) r
theorem pxF_snoc (x : UInt8) : ∀ (l : List UInt8) (j : Nat) (a : Int), pxF j a (l ++ [x]) = pxStep (pxF j a l) (j + l.length) x
  | [], _, _ => rfl
  | y :: l, j, a => by show pxF (j + 1) _ (l ++ [x]) = _; rw [pxF_snoc x l (j + 1)]; show pxStep (pxF (j + 1) (pxStep a j y) l) (j + 1 + l.length) x = pxStep (pxF (j + 1) (pxStep a j y) l) (j + (l.length + 1)) x; rw [show j + 1 + l.length = j + (l.length + 1) by omega]
theorem pxStep_rng (a : Int) (j : Nat) (x : UInt8) : 0 <= pxStep a j x ∧ pxStep a j x < 4294967296 := by unfold pxStep bitsOr; rw [wr_u32]; omega
theorem pxF_rng : ∀ (l : List UInt8) (j : Nat) (a : Int), 0 <= a ∧ a < 4294967296 -> 0 <= pxF j a l ∧ pxF j a l < 4294967296
  | [], _, _, h => h
  | x :: r, j, a, _ => pxF_rng r (j + 1) _ (pxStep_rng a j x)
def pxN (l : List UInt8) : Nat := (pxF 0 0 l).toNat
theorem pxN_eq (l : List UInt8) : pxF 0 0 l = (pxN l : Int) ∧ pxN l < 4294967296 := by
  have := pxF_rng l 0 0 ⟨by decide, by decide⟩
  unfold pxN; omega
def prefOf (n : Nat) (l : List UInt8) : UInt32 × Int := (UInt32.ofNat (pxN l - pxN l % hostBits n), (n : Int))
def prefX : Nat -> List UInt8 -> List PfB
  | 0, _ => []
  | _ + 1, [] => []
  | f + 1, x :: r => if x.toNat <= 32 ∧ oct8 x.toNat <= r.length then (prefOf x.toNat (r.take (oct8 x.toNat)), true, ()) :: prefX f (r.drop (oct8 x.toNat)) else [((0, 0), false, ())]
theorem prefX_fuel : ∀ (k k' : Nat) (s : List UInt8), s.length <= k -> s.length <= k' -> prefX k s = prefX k' s
  | 0, 0, s, _, _ => rfl
  | 0, k' + 1, [], _, _ => rfl
  | 0, _ + 1, _ :: _, h, _ => by simp at h
  | k + 1, 0, [], _, _ => rfl
  | _ + 1, 0, _ :: _, _, h => by simp at h
  | k + 1, k' + 1, [], _, _ => rfl
  | k + 1, k' + 1, x :: r, h, h' => by
    simp only [prefX]; have e : (r.drop (oct8 x.toNat)).length <= r.length := by simp only [List.length_drop]; omega
    simp only [List.length_cons] at h h'; rw [prefX_fuel k k' _ (by omega) (by omega)]
def prefXs (s : List UInt8) : List PfB := prefX s.length s
theorem prefXs_bad {x : UInt8} {r : List UInt8} (h : ¬ (x.toNat <= 32 ∧ oct8 x.toNat <= r.length)) : prefXs (x :: r) = [((0, 0), false, ())] := by unfold prefXs; simp only [List.length_cons, prefX]; rw [if_neg h]
theorem prefXs_cons {x : UInt8} {r : List UInt8} (h : x.toNat <= 32 ∧ oct8 x.toNat <= r.length) : prefXs (x :: r) = (prefOf x.toNat (r.take (oct8 x.toNat)), true, ()) :: prefXs (r.drop (oct8 x.toNat)) := by unfold prefXs; simp only [List.length_cons, prefX]; rw [if_pos h, prefX_fuel r.length _ _ (by simp only [List.length_drop]; omega) (Nat.le_refl _)]
def it_prefixes : It := ⟨[.agg [.int .u32, .int .i64], .bool], [.lst [.int .u8]], fun c => prefXs c.1, fun c => c.1.length <= 4611686018427387904⟩
theorem cell_drop {Z : Nat -> Prop} {H : Heap} {s : List UInt8} {a : Option Addr} {n c : Nat} (h : CellOk Z H (.lst [.int .u8]) s (.slice a n c)) {k : Nat} (hk : k <= n) :
    CellOk Z H (.lst [.int .u8]) (s.drop k) (.slice (if c = k then a else Option.map (fun a => Addr.add a (k * 1)) a) (n - k) (c - k)) := by
  simp only [CellOk] at h ⊢; obtain ⟨a', n', c', e, hl, hnc, hcm, hat⟩ := h; cases e; have hl : s.length = n := hl; refine ⟨_, _, _, rfl, ?_, by omega, by omega, fun h0 => ?_⟩
  show (s.drop k).length = _; rw [List.length_drop, hl]
  . obtain ⟨b, o, rfl, hz, cs, T, fr, hb, hc⟩ := hat (by omega)
    rw [if_neg (by omega)]
    refine ⟨b, o + k, by simp [Addr.add], hz, cs, T, fr, hb, fun i x hx => ?_⟩
    have hx : (s.drop k)[i]? = some x := hx; rw [List.getElem?_drop] at hx; refine CellsOk.congr (fun jj _ => ?_) (hc (k + i) x hx); congr 1; simp only [List.length_cons, List.length_nil]; omega
theorem cell_byte {Z : Nat -> Prop} {H : Heap} {s : List UInt8} {a : Option Addr} {n c : Nat} (h : CellOk Z H (.lst [.int .u8]) s (.slice a n c)) {i : Nat} {x : UInt8} (hx : s[i]? = some x) :
    ∃ b o, a = some ⟨b, o, none⟩ ∧ Z b ∧ ∀ H' : Heap, H' b = H b -> H'.cell ⟨b, o + i, none⟩ = some (.int .u8 (x.toNat : Int)) := by
  simp only [CellOk] at h; obtain ⟨a', n', c', e, hl, hnc, hcm, hat⟩ := h; cases e; have hl : s.length = n := hl; have hi : i < s.length := (List.getElem?_eq_some_iff.1 hx).1; obtain ⟨b, o, rfl, hz, cs, T, fr, hb, hc⟩ := hat (by omega)
  refine ⟨b, o, rfl, hz, fun H' he => ?_⟩; have h2 := hc i x hx; simp only [CellsOk, CellOk, List.length_cons, List.length_nil, Nat.zero_add, Nat.mul_one, Nat.add_zero] at h2; obtain ⟨⟨v, h3, h4, _⟩, _⟩ := h2; unfold Heap.cell; simp only [he, hb]; show cs[o + i]? = _; rw [h3, h4]; rfl
theorem cell_box {H : Heap} {b : Nat} {v : Value} {T : TypeId} (h : H b = some (.cells ⟨[v]⟩ T (0, 0))) : H.cell ⟨b, 0, none⟩ = some v := by simp [Heap.cell, h]
theorem mask_run {H : Heap} (a n : Nat) (ha : a < 4294967296) (hn : n <= 32) : FnW Tryd.prog f_zz18 ⟨[.int .u32 (a : Int), .int .i64 (n : Int)]⟩ H fun v H' => v = .int .u32 ((a - a % hostBits n : Nat) : Int) ∧ Keep Nil H H' := by
  refine zz18_sh a n ?_; unfold zz18_p; have e1 : IntKind.wrap .i64 (32 - (n : Int)) = ((32 - n : Nat) : Int) := by rw [wr_i64 (by omega) (by omega)]; omega
  rw [e1]; refine ⟨by omega, fun H2 hs => ⟨?_, shutK (Keep.refl _ _) hs⟩⟩
  have hp : 2 ^ (32 - n) <= 2 ^ 32 := Nat.pow_le_pow_right (by decide) (by omega)
  have h0 : 0 < 2 ^ (32 - n) := Nat.two_pow_pos _; have e32 : (2 : Nat) ^ 32 = 4294967296 := rfl; have e2 : (min ((32 - n : Nat) : Int).toNat (IntKind.bits .u64)) = 32 - n := by rw [Int.toNat_natCast]; have : IntKind.bits .u64 = 64 := rfl; rw [this]; omega
  have e3 : (1 * (2 ^ (32 - n)) : Int) = ((2 ^ (32 - n) : Nat) : Int) := by rw [Int.one_mul]; norm_cast
  rw [e2, e3, wu64n _ (by omega), show (((2 ^ (32 - n) : Nat) : Int) - 1) = ((2 ^ (32 - n) - 1 : Nat) : Int) by omega, wu64n _ (by omega), wu32 (by omega), andNot_low a ha _ (by omega)]
  rfl
theorem octets_run {H : Heap} (n : Nat) (hn : n <= 300) : FnW Tryd.prog f_zz19 ⟨[.int .i64 (n : Int)]⟩ H fun v H' => v = .int .i64 (oct8 n : Nat) ∧ Keep Nil H H' := by
  refine zz19_sh n ⟨by decide, fun H2 hs => ⟨?_, shutK (Keep.refl _ _) hs⟩⟩
  rw [wr_i64 (n := (n : Int) + 8) (by omega) (by omega), wr_i64 (n := (n : Int) + 8 - 1) (by omega) (by omega), Int.tdiv_eq_ediv_of_nonneg (by omega), wr_i64 (by omega) (by omega)]
  unfold oct8; congr 1; omega
structure QI {l : Nat} (Hs : Heap) (Z : Nat -> Prop) (b1 : Nat) (C : Cons Tryd.prog l it_prefixes.ps Hs [b1]) (rest : List PfB) (s : List UInt8) (v : Value) (H : Heap) (Z' W' : Nat -> Prop) : Prop where
  J : C.J Z' W' rest H
  bx : ∃ T, H b1 = some (.cells ⟨[v]⟩ T (0, 0))
  cs : CellOk Z Hs (.lst [.int .u8]) s v
  z : ∀ b, Z b -> Z' b ∧ H b = Hs b
  w1 : ¬ W' b1
  z1 : ¬ Z' b1
theorem QI.quiet {l : Nat} {Hs : Heap} {Z : Nat -> Prop} {b1 : Nat} {C : Cons Tryd.prog l it_prefixes.ps Hs [b1]} {rest : List PfB} {s : List UInt8} {v : Value} {H H' : Heap} {Z' W' : Nat -> Prop} (q : QI Hs Z b1 C rest s v H Z' W') (hz0 : ∀ b, Z b -> Hs b ≠ none) (k : Keep Nil H H') : QI Hs Z b1 C rest s v H' Z' W' := by obtain ⟨T, hb⟩ := q.bx; exact ⟨C.stJ q.J (fun b hb _ => k.same b (fun h => h) hb) k.live, ⟨T, (k.same b1 (fun h => h) (by rw [hb]; simp)).trans hb⟩, q.cs, fun b hb => ⟨(q.z b hb).1, (k.same b (fun h => h) (by rw [(q.z b hb).2]; exact hz0 b hb)).trans (q.z b hb).2⟩, q.w1, q.z1⟩
theorem QI.round {l : Nat} {Hs : Heap} {Z : Nat -> Prop} {b1 : Nat} {C : Cons Tryd.prog l it_prefixes.ps Hs [b1]} {rest : List PfB} {s : List UInt8} {v : Value} {H : Heap} {Z' W' : Nat -> Prop} {a n : Nat} {ok : Bool}
    (q : QI Hs Z b1 C (((UInt32.ofNat a, (n : Int)), ok, ()) :: rest) s v H Z' W') (ha : a < 4294967296) (hn : n <= 32) :
    YieldW Tryd.prog l [.agg ⟨[.int .u32 (a : Int), .int .i64 (n : Int)]⟩, .bool ok] H fun w H' => (w = .bool true ∧ ∃ Z'' W'', QI Hs Z b1 C rest s v H' Z'' W'') ∨ (w = .bool false ∧ ∃ Z'' W'', C.X Z'' W'' H') := by
  obtain ⟨T, hb⟩ := q.bx; have l1 : H b1 ≠ none := by rw [hb]; simp
  refine YieldW.mono (fun w H' hv => ?_) (C.round (Zx := fun _ => False) (x := ((UInt32.ofNat a, (n : Int)), ok, ())) q.J ?_ (fun b hb => hb.elim)); obtain ⟨k1, k2, Z'', W'', k3, k4, k5, k6, k7, hk⟩ := hv; rcases hk with ⟨rfl, hk⟩ | ⟨rfl, hk⟩; refine .inl ⟨rfl, Z'', W'', hk, ⟨T, (k1 b1 l1 q.w1).trans hb⟩, q.cs, fun b hb => ?_, fun h => ?_, fun h => ?_⟩; obtain ⟨q1, q2⟩ := k3 b (.inl (q.z b hb).1); exact ⟨q1, q2.trans (q.z b hb).2⟩; rcases k4 b1 h with h | h; exact q.w1 h; exact l1 h; rcases k5 b1 h with h | h | h | h; exact q.z1 h; exact h; exact q.w1 h; exact l1 h; exact .inr ⟨rfl, Z'', W'', hk⟩
  . show ArgIs _ H [.agg [.int .u32, .int .i64], .bool] ((UInt32.ofNat a, (n : Int)), ok, ()) _; simp only [ArgIs, pksA, pkA, SimL, SimV, and_true]; refine ⟨_, rfl, ?_⟩; have e : (UInt32.ofNat a).toNat = a := by rw [UInt32.toNat_ofNat', Nat.mod_eq_of_lt (by omega)]
    simp only [lvT, lvE, SimL, SimV, and_true, hdT, tlT, toI, e, true_and]; exact ⟨⟨by simp [loI], by simp only [hiI]; omega⟩, ⟨by simp only [loI]; omega, by simp only [hiI]; omega⟩⟩
section
variable {l : Nat} {Hs : Heap} {Z : Nat -> Prop} {b1 : Nat} {C : Cons Tryd.prog l it_prefixes.ps Hs [b1]}
theorem pref_bad {x13 x16 : Int} {next0 : Unit -> Heap -> Prop} {s : List UInt8} {v : Value} {H : Heap} {Z' W' : Nat -> Prop} (q : QI Hs Z b1 C [((0, 0), false, ())] s v H Z' W') :
    zz55_j0 l b1 x13 x16 next0 true H fun _ H1 => ∀ H2, Shut Hs H1 H2 -> ∃ Z' W', C.J Z' W' [] H2 ∨ C.X Z' W' H2 := by
  unfold zz55_j0; refine ifT rfl (YieldW.mono (fun w H' hv => ?_) (QI.round (a := 0) (n := 0) (ok := false) (rest := []) q (by decide) (by decide)))
  rcases hv with ⟨rfl, Z'', W'', hq⟩ | ⟨rfl, Z'', W'', hx⟩; exact ⟨true, rfl, fun H2 hs => C.shut hs ⟨Z'', W'', .inl hq.J⟩⟩; exact ⟨false, rfl, fun H2 hs => C.shut hs ⟨Z'', W'', .inr hx⟩⟩
theorem pref_good {next0 : Unit -> Heap -> Prop} {x : UInt8} {r : List UInt8} {v : Value} {H : Heap} {Z' W' : Nat -> Prop} (hz0 : ∀ b, Z b -> Hs b ≠ none) (hok : x.toNat <= 32 ∧ oct8 x.toNat <= r.length) (hl : (x :: r).length <= 4611686018427387904)
    (q : QI Hs Z b1 C (prefXs (x :: r)) (x :: r) v H Z' W') (hn : ∀ v' H' Z'' W'', QI Hs Z b1 C (prefXs (r.drop (oct8 x.toNat))) (r.drop (oct8 x.toNat)) v' H' Z'' W'' -> next0 () H') :
    zz55_j0 l b1 (x.toNat : Int) (oct8 x.toNat : Nat) next0 false H fun _ H1 => ∀ H2, Shut Hs H1 H2 -> ∃ Z' W', C.J Z' W' [] H2 ∨ C.X Z' W' H2 := by
  have hv := q.cs; simp only [CellOk] at hv; obtain ⟨a, n, c, rfl, hln, hnc, hcm, -⟩ := hv; have hln : (x :: r).length = n := hln; simp only [List.length_cons] at hln hl; unfold lenMax at hcm; have ho : oct8 x.toNat <= 4 := by unfold oct8; omega
  obtain ⟨T, hbx⟩ := q.bx; unfold zz55_j0; have w1 : IntKind.wrap .i64 (1 + ((oct8 x.toNat : Nat) : Int)) = ((1 + oct8 x.toNat : Nat) : Int) := by rw [wr_i64 (by omega) (by omega)]; omega
  rw [w1]; refine ifF rfl ⟨a, n, c, cell_box hbx, by omega, by omega, by omega, by omega, ?_⟩
  rw [Int.toNat_natCast]; refine ⟨fun k y H' => ∃ j : Nat, j <= oct8 x.toNat ∧ k = oct8 x.toNat - j ∧ y = (pxF 0 0 (r.take j), (j : Int), ()) ∧ QI Hs Z b1 C (prefXs (x :: r)) (x :: r) (.slice a n c) H' Z' W', oct8 x.toNat, ⟨0, Nat.zero_le _, by omega, rfl, q⟩, ?_⟩
  rintro k y H5 ⟨j, hj, rfl, rfl, q5⟩ g; simp only; unfold zz55_l7; refine IfB.intro (fun h1 => ?_) (fun h1 => ?_)
  . have h1 : j < oct8 x.toNat := by have := of_decide_eq_true h1; omega
    obtain ⟨y, hy⟩ : ∃ y, r[j]? = some y := ⟨_, List.getElem?_eq_getElem (by omega)⟩
    obtain ⟨b, o, rfl, hzb, hcell⟩ := cell_byte (i := 1 + j) (x := y) q.cs (by rw [Nat.add_comm]; simpa using hy)
    have hc1 : c ≠ (1 : Int).toNat := by show c ≠ 1; omega
    rw [if_neg hc1]; refine NilP.intro _ rfl ⟨by omega, by omega, ?_⟩
    show ∃ x38 : Int, H5.cell ⟨b, o + (1 : Int).toNat * 1 + (j : Int).toNat * 1, none⟩ = some (.int .u8 x38) ∧ _; have e1 : o + (1 : Int).toNat * 1 + (j : Int).toNat * 1 = o + (1 + j) := by rw [Int.toNat_natCast]; show o + 1 * 1 + j * 1 = _; omega
    rw [e1]; have w2 : IntKind.wrap .i64 (24 - IntKind.wrap .i64 (8 * (j : Int))) = ((24 - 8 * j : Nat) : Int) := by
      rw [wr_i64 (n := 8 * (j : Int)) (by omega) (by omega), wr_i64 (by omega) (by omega)]; omega
    refine ⟨(y.toNat : Int), hcell H5 (q5.z b hzb).2, by rw [w2]; omega, oct8 x.toNat - (j + 1), by omega, j + 1, by omega, rfl, ?_, q5⟩
    rw [w2, Int.toNat_natCast, wr_i64 (n := (j : Int) + 1) (by omega) (by omega), List.take_add_one, hy]
    simp only [Option.toList_some]; rw [pxF_snoc]; have e3 : (r.take j).length = j := by rw [List.length_take]; omega
    rw [e3, Nat.zero_add]; rfl
  . have h1 : j = oct8 x.toNat := by have := of_decide_eq_false h1; omega
    subst h1; have w3 : IntKind.wrap .i64 (x.toNat : Int) = (x.toNat : Int) := wr_i64 (by omega) (by omega)
    obtain ⟨e1, e2⟩ := pxN_eq (r.take (oct8 x.toNat)); rw [w3, e1]; refine (mask_run _ _ e2 hok.1).mono ?_; rintro w H6 ⟨rfl, k6⟩; refine ⟨_, rfl, ?_⟩; have q6 := q5.quiet hz0 k6; rw [prefXs_cons hok] at q6; refine YieldW.mono (fun w H7 hv => ?_) (QI.round (a := pxN (r.take (oct8 x.toNat)) - pxN (r.take (oct8 x.toNat)) % hostBits x.toNat) (n := x.toNat) (ok := true) q6 (by omega) hok.1)
    rcases hv with ⟨rfl, Z'', W'', q7⟩ | ⟨rfl, Z'', W'', hx⟩
    . refine ⟨true, rfl, ifF rfl ?_⟩; obtain ⟨T7, hb7⟩ := q7.bx; refine ⟨a, n, c, cell_box hb7, by omega, by omega, StCell.blk (T := T7) hb7 (by simp) rfl ?_⟩
      rw [w1, Int.toNat_natCast]; have hd := cell_drop (k := 1 + oct8 x.toNat) q7.cs (by omega)
      have e4 : (x :: r).drop (1 + oct8 x.toNat) = r.drop (oct8 x.toNat) := by rw [Nat.add_comm]; rfl
      have hd := (congrArg (fun z : List UInt8 => CellOk Z Hs (.lst [.int .u8]) z (.slice (if c = 1 + oct8 x.toNat then a else Option.map (fun a => Addr.add a ((1 + oct8 x.toNat) * 1)) a) (n - (1 + oct8 x.toNat)) (c - (1 + oct8 x.toNat)))) e4).mp hd
      refine hn _ _ Z'' W'' ⟨C.stJ q7.J (fun b hb hw => ?_) (fun b hb => ?_), ⟨T7, ?_⟩, hd, fun b hb => ⟨(q7.z b hb).1, ?_⟩, q7.w1, q7.z1⟩; refine Sh.upd_ne fun e => ?_; subst e; rcases hw with h | h | h; exact q7.z1 h; exact q7.w1 h; exact h.2 (by simp)
      by_cases e : b = b1; subst e; rw [Sh.upd_eq]; simp; rw [Sh.upd_ne e]; exact hb; rw [Sh.upd_eq]; rfl
      . have hne : b ≠ b1 := fun e => by subst e; exact q7.z1 (q7.z b hb).1
        rw [Sh.upd_ne hne]; exact (q7.z b hb).2
    exact ⟨false, rfl, ifT rfl fun H2 hs => C.shut hs ⟨Z'', W'', .inr hx⟩⟩
theorem pref_run {T1 : TypeId} {W : Nat -> Prop} {s : List UInt8} {v1 : Value} (hz0 : ∀ b, Z b -> Hs b ≠ none) (hl : s.length <= 4611686018427387904) (hs : CellOk Z Hs (.lst [.int .u8]) s v1)
    (hb1 : Hs b1 = some (.cells ⟨[v1]⟩ T1 (0, 0))) (hz1 : ¬ Z b1) (hw1 : ¬ W b1) (hJ : C.J Z W (prefXs s) Hs) :
    FnW Tryd.prog f_zz55 ⟨[.func (.yield l) #[] #[], capBox b1]⟩ Hs fun _ H' => ∃ Z' W', C.J Z' W' [] H' ∨ C.X Z' W' H' := by
  refine zz55_sh l b1 ?_; unfold zz55_p; refine ⟨fun k _ H => ∃ s v Z' W', k = s.length ∧ s.length <= 4611686018427387904 ∧ QI Hs Z b1 C (prefXs s) s v H Z' W', s.length, ⟨s, v1, Z, W, rfl, hl, hJ, ⟨T1, hb1⟩, hs, fun b hb => ⟨hb, rfl⟩, hw1, hz1⟩, ?_⟩; rintro k u H ⟨s, v, Z', W', rfl, hl, q⟩ g; have hv := q.cs; simp only [CellOk] at hv; obtain ⟨a, n, c, rfl, hln, hnc, hcm, -⟩ := hv; have hln : s.length = n := hln; obtain ⟨T, hbx⟩ := q.bx; unfold zz55_l0; refine ⟨a, n, c, cell_box hbx, IfB.intro (fun h1 => ?_) (fun h1 => ?_)⟩
  . have h1 : 0 < n := by have := of_decide_eq_true h1; omega
    cases s with
    | nil => simp at hln; omega
    | cons x r =>
    obtain ⟨b, o, rfl, hzb, hcell⟩ := cell_byte (i := 0) (x := x) q.cs rfl; refine ⟨_, n, c, cell_box hbx, NilP.intro _ rfl ⟨by omega, by omega, ?_⟩⟩
    have hx := UInt8.toNat_lt x; have w3 : IntKind.wrap .i64 (x.toNat : Int) = (x.toNat : Int) := wr_i64 (by omega) (by omega)
    refine ⟨(x.toNat : Int), hcell H (q.z b hzb).2, ?_⟩; rw [w3]; refine (octets_run x.toNat (by omega)).mono ?_
    rintro w H2 ⟨rfl, k2⟩; have q2 := q.quiet hz0 k2; obtain ⟨T2, hbx2⟩ := q2.bx; refine ⟨_, rfl, IfB.intro (fun h2 => ?_) (fun h2 => ?_)⟩
    . have h2 : ¬ (x.toNat <= 32 ∧ oct8 x.toNat <= r.length) := fun h => by have := of_decide_eq_true h2; omega
      rw [prefXs_bad h2] at q2; exact pref_bad q2
    . have h2 : x.toNat <= 32 := by have := of_decide_eq_false h2; omega
      refine ⟨_, n, c, cell_box hbx2, ?_⟩; simp only [List.length_cons] at hln hl; rw [wr_i64 (n := (n : Int) - 1) (by omega) (by omega)]
      by_cases h3 : oct8 x.toNat <= r.length
      . rw [decide_eq_false (by omega)]
        refine pref_good hz0 ⟨h2, h3⟩ (by simp only [List.length_cons]; omega) q2 fun v' H' Z'' W'' q' => ⟨_, ?_, _, v', Z'', W'', rfl, ?_, q'⟩
        simp only [List.length_drop, List.length_cons]; omega; simp only [List.length_drop]; omega
      . rw [decide_eq_true (by omega)]
        have h4 : ¬ (x.toNat <= 32 ∧ oct8 x.toNat <= r.length) := fun h => h3 h.2; rw [prefXs_bad h4] at q2; exact pref_bad q2
  . have h1 : n = 0 := by have := of_decide_eq_false h1; omega
    have : s = [] := List.eq_nil_of_length_eq_zero (by omega)
    subst this; exact fun H2 hs2 => C.shut hs2 ⟨Z', W', .inl q.J⟩
end
theorem it_prefixes_ok : ItOk Tryd.prog f_zz55 it_prefixes := by
  intro Hs Z W bs us c l C hpre hnd hlen hval hus hwf hzl hbz hwl hlay hlo hJ; obtain ⟨s, cu⟩ := c; have hus' : SimL ⟨Z, fun _ => 0, fun _ => .nilFunc⟩ Hs 0 [AV.lst [.int .u8] s] us := hus
  match us, hus' with
  | [v1], hus' =>
  match bs, hlen with
  | [b1], _ =>
  simp only [SimL, SimV] at hus'; obtain ⟨T1, hb1⟩ := hval 0 b1 v1 rfl rfl; exact pref_run hzl hpre hus'.1 hb1 (hbz b1 (by simp)).1 (hbz b1 (by simp)).2 hJ
end Go.Proofs.YtboagabgpcghcaaDoor
set_option maxHeartbeats 1000000
namespace Go.Proofs.YtboagabgpcghcaaDoor
open Go.Sh
def chunks (n : Nat) : Nat -> List UInt8 -> List (List UInt8)
  | 0, _ => []
  | _ + 1, [] => []
  | k + 1, x :: r => (x :: r).take n :: chunks n k ((x :: r).drop n)
theorem chunks_fuel {n : Nat} (hn : 0 < n) : ∀ (k k' : Nat) (s : List UInt8), s.length <= k -> s.length <= k' -> chunks n k s = chunks n k' s
  | 0, 0, s, _, _ => rfl
  | 0, k' + 1, [], _, _ => rfl
  | 0, _ + 1, _ :: _, h, _ => by simp at h
  | k + 1, 0, [], _, _ => rfl
  | _ + 1, 0, _ :: _, _, h => by simp at h
  | k + 1, k' + 1, [], _, _ => rfl
  | k + 1, k' + 1, x :: r, h, h' => by
    simp only [chunks]; have e : ((x :: r).drop n).length <= r.length := by simp only [List.length_drop, List.length_cons]; omega
    simp only [List.length_cons] at h h'; rw [chunks_fuel hn k k' _ (by omega) (by omega)]
def chunkXs (s : List UInt8) (n : Int) : List (List UInt8 × Unit) := (chunks n.toNat s.length s).map fun x => (x, ())
theorem chunkXs_nil (n : Int) : chunkXs [] n = [] := rfl
theorem chunkXs_cons {s : List UInt8} {n : Int} (hn : 1 <= n) (hs : s ≠ []) : chunkXs s n = (s.take n.toNat, ()) :: chunkXs (s.drop n.toNat) n := by
  cases s with
  | nil => exact absurd rfl hs
  | cons x r =>
    unfold chunkXs; have e : ((x :: r).drop n.toNat).length <= r.length := by simp only [List.length_drop, List.length_cons]; omega
    simp only [List.length_cons, chunks, List.map_cons]; rw [chunks_fuel (by omega) r.length _ _ e (Nat.le_refl _)]
def chunkPre (s : List UInt8) (n : Int) : Prop := 1 <= n ∧ n <= 4611686018427387904 ∧ s.length <= 4611686018427387904
def it_chunk : It := ⟨[.lst [.int .u8]], [.lst [.int .u8], .int .i64], fun c => chunkXs c.1 c.2.1, fun c => chunkPre c.1 c.2.1⟩
theorem two_of {A : Type} {l : List A} (h : l.length = 2) : ∃ a b, l = [a, b] := by
  match l, h with
  | [a, b], _ => exact ⟨a, b, rfl⟩
theorem chunk_run {Hs : Heap} {Z W : Nat -> Prop} {b1 b2 : Nat} {T1 T2 : TypeId} {s : List UInt8} {n : Int} {v1 : Value} {l : Nat} {C : Cons Tryd.prog l it_chunk.ps Hs [b1, b2]} (hpre : chunkPre s n) (hs : CellOk Z Hs (.lst [.int .u8]) s v1)
    (hb1 : Hs b1 = some (.cells ⟨[v1]⟩ T1 (0, 0))) (hb2 : Hs b2 = some (.cells ⟨[.int .i64 n]⟩ T2 (0, 0))) (hw1 : ¬ W b1) (hw2 : ¬ W b2) (hJ : C.J Z W (chunkXs s n) Hs) :
    FnW Tryd.prog f_zz57 ⟨[.func (.yield l) #[] #[], capBox b1, capBox b2]⟩ Hs fun _ H' => ∃ Z' W', C.J Z' W' [] H' ∨ C.X Z' W' H' := by
  obtain ⟨hn1, hn2, hsl⟩ := hpre; simp only [CellOk] at hs; obtain ⟨a, m, cp, rfl, hsm, hmc, hcm, hat⟩ := hs; have hsm' : s.length = m := hsm; unfold lenMax at hcm; refine zz57_sh l b1 b2 ?_; unfold zz57_p; refine ⟨fun k x H => ∃ (i : Nat) (Z' W' : Nat -> Prop), x.1 = (i : Int) ∧ k = s.length - i ∧ C.J Z' W' (chunkXs (s.drop i) n) H ∧ H b1 = Hs b1 ∧ H b2 = Hs b2 ∧ (∀ b, Z b -> Z' b ∧ H b = Hs b) ∧ ¬ W' b1 ∧ ¬ W' b2,
    s.length, ⟨0, Z, W, rfl, rfl, hJ, rfl, rfl, fun b hb => ⟨hb, rfl⟩, hw1, hw2⟩, ?_⟩
  rintro k x H ⟨i, Z', W', hx, rfl, hJi, h1, h2, hZ, hw1, hw2⟩ gE; have c1 := cell_box (h1.trans hb1); have c2 := cell_box (h2.trans hb2); obtain ⟨xi, xu⟩ := x; simp only at hx; subst hx; simp only; unfold zz57_l1; refine ⟨a, m, cp, c1, ?_⟩; refine IfB.intro (fun hlt => ?_) (fun hge => ?_)
  . have him : i < m := by have := of_decide_eq_true hlt; omega
    refine ⟨n, c2, a, m, cp, c1, by omega, by omega, a, m, cp, c1, ?_⟩
    have he : ∃ e : Nat, e = min n.toNat (m - i) := ⟨_, rfl⟩; obtain ⟨e, he⟩ := he; have hw : IntKind.wrap .i64 ((i : Int) + (min n ((m - (i : Int).toNat : Nat) : Int))) = ((i + e : Nat) : Int) := by rw [wr_i64] <;> simp only [Int.toNat_natCast] <;> omega
    rw [hw]; refine ⟨by omega, by omega, ?_⟩
    simp only [Int.toNat_natCast]; refine ⟨by omega, by omega, ?_⟩
    simp only [Int.toNat_natCast]; refine ⟨by omega, by omega, ?_⟩
    simp only [Int.toNat_natCast]; rw [if_neg (by omega)]
    obtain ⟨b, o, rfl, hzb, cs, T, fr, hcb, hcc⟩ := hat (by omega)
    have hne : s.drop i ≠ [] := fun h0 => by have := congrArg List.length h0; simp only [List.length_drop, List.length_nil] at this; omega
    rw [chunkXs_cons hn1 hne] at hJi; refine YieldW.mono (fun v H' hv => ?_) (C.round (Zx := Z) hJi ?_ (fun b hb => .inl (hZ b hb).1))
    . obtain ⟨k1, k2, Z'', W'', k3, k4, k5, k6, k7, hk⟩ := hv; have hl1 : H b1 ≠ none := by rw [h1, hb1]; simp
      have hl2 : H b2 ≠ none := by rw [h2, hb2]; simp
      rcases hk with ⟨rfl, hk⟩ | ⟨rfl, hk⟩
      . refine ⟨true, rfl, ifF rfl ⟨n, cell_box (((k1 b2 hl2 hw2).trans h2).trans hb2), s.length - (i + n.toNat), by omega, i + n.toNat, Z'', W'', ?_, rfl, ?_, (k1 b1 hl1 hw1).trans h1, (k1 b2 hl2 hw2).trans h2, fun b hb => ?_, fun h => ?_, fun h => ?_⟩⟩
        show IntKind.wrap .i64 ((i : Int) + n) = _; rw [wr_i64] <;> omega; rw [← List.drop_drop]; exact hk; obtain ⟨q1, q2⟩ := k3 b (.inl (hZ b hb).1); exact ⟨q1, q2.trans (hZ b hb).2⟩; rcases k4 b1 h with h | h; exact hw1 h; exact hl1 h; rcases k4 b2 h with h | h; exact hw2 h; exact hl2 h
      exact ⟨false, rfl, ifT rfl fun H2 hs2 => C.shut hs2 ⟨Z'', W'', .inr hk⟩⟩
    . show ArgIs Z H [.lst [.int .u8]] ((s.drop i).take n.toNat, ()) _; simp only [ArgIs, pksA, pkA, SimL, SimV, and_true]; simp only [CellOk]; refine ⟨_, _, _, rfl, ?_, Nat.le_refl _, by unfold lenMax; omega, fun _ => ⟨b, o + i, by simp [Addr.add], hzb, cs, T, fr, by rw [(hZ b hzb).2]; exact hcb, fun j x hj => ?_⟩⟩
      show ((s.drop i).take n.toNat).length = _; simp only [List.length_take, List.length_drop]; omega; have hj' : ((s.drop i).take n.toNat)[j]? = some x := hj; rw [List.getElem?_take] at hj'; split at hj'; rw [List.getElem?_drop] at hj'; refine CellsOk.congr (fun jj _ => ?_) (CellsOk.ext (fun b hb => ⟨hb, (hZ b hb).2⟩) _ _ _ (hcc (i + j) x hj')); congr 1; simp only [List.length_cons, List.length_nil]; omega; cases hj'
  . have hge' : m <= i := by have := of_decide_eq_false hge; omega
    intro H2 hs2; refine C.shut hs2 ⟨Z', W', .inl ?_⟩; have : s.drop i = [] := List.drop_eq_nil_of_le (by omega)
    rw [this] at hJi; exact hJi
theorem it_chunk_ok : ItOk Tryd.prog f_zz57 it_chunk := by
  intro Hs Z W bs us c l C hpre hnd hlen hval hus hwf hzl hbz hwl hlay hlo hJ; obtain ⟨s, n, cu⟩ := c; have hus' : SimL ⟨Z, fun _ => 0, fun _ => .nilFunc⟩ Hs 0 [AV.lst [.int .u8] s, .int .i64 n] us := hus; obtain ⟨v1, v2, rfl⟩ := two_of (hus'.len).symm; obtain ⟨b1, b2, rfl⟩ := two_of (l := bs) (by rw [hlen]; rfl)
  simp only [SimL, SimV] at hus'; obtain ⟨hs, ⟨rfl, hnr⟩, _⟩ := hus'; obtain ⟨T1, hb1⟩ := hval 0 b1 v1 rfl rfl; obtain ⟨T2, hb2⟩ := hval 1 b2 _ rfl rfl; exact chunk_run hpre hs hb1 hb2 (hbz b1 (by simp)).2 (hbz b2 (by simp)).2 hJ
end Go.Proofs.YtboagabgpcghcaaDoor
end
