/-
  The laws PackVoid and PackPaces over the heap: a pacer that no call made lets nothing go; and what a pacer lets go. Conditions: none beyond those of the given statements.
-/
import Derived.Test.YtgdkenndkhnkdaaL33
import Derived.Test.YtgdkenndkhnkdaaItsP
set_option linter.unusedVariables false
set_option linter.unusedSimpArgs false
set_option maxRecDepth 100000
namespace Go.Proofs.Ytgdkenndkhnkdaa
open Go.Sh
theorem shutK {H0 H H2 : Heap} (k : Keep Nil H0 H) (hs : Shut H0 H H2) : Keep Nil H0 H2 :=
  ⟨fun b hb ha => by
    rcases hs b with e | ⟨e, _, _⟩
    · rw [e]; exact k.same b hb ha
    · exact absurd e ha, fun b ha => by
    rcases hs b with e | ⟨e, _, _⟩
    · rw [e]; exact k.live b ha
    · exact absurd e ha⟩
theorem works_run {H : Heap} : FnW Try.prog f_law33_works ⟨[]⟩ H fun v H' => v = .bool true ∧ Keep Nil H H' := by
  refine (FnQ.run (x := (() : PkTs law33_works_ps)) law33_works_fq rfl rfl (Z := fun _ => False) ?_ (fun _ h => h.elim) (fun b hb => by cases hb) trivial (K := fun y => y.1 = true) (works_c _ rfl)).mono fun v H' hk => ?_
  · simp only [pksA, SimL]
  · obtain ⟨hk, y, hy, _, hv⟩ := hk
    have := hv 0 (gZ fun _ => False)
    obtain ⟨y, u⟩ := y
    simp only at hy
    subst hy
    simp only [pksA, pkA, outA, SimV] at this
    exact ⟨this, hk⟩
def Pcr (H : Heap) (b : Nat) (gap next : Int) (made : Bool) : Prop := Blk H b T_pack_Pacer ⟨[.int .i64 gap, .int .i64 next, .bool made]⟩
theorem go_nil {H : Heap} (now : Int) : FnW Try.prog f_pack_Pacer_Go ⟨[.pointer none, .int .i64 now]⟩ H fun v H' => v = .bool false ∧ Keep Nil H H' :=
  pack_Pacer_Go_nil_sh now fun H2 hs => ⟨rfl, shutK (Keep.refl _ _) hs⟩
theorem next_nil {H : Heap} : FnW Try.prog f_pack_Pacer_Next ⟨[.pointer none]⟩ H fun v H' => v = .int .i64 0 ∧ Keep Nil H H' :=
  pack_Pacer_Next_nil_sh fun H2 hs => ⟨rfl, shutK (Keep.refl _ _) hs⟩
theorem next_run {H : Heap} {b : Nat} {gap next : Int} {made : Bool} (h : Pcr H b gap next made) : FnW Try.prog f_pack_Pacer_Next ⟨[.pointer (some ⟨b, 0, none⟩)]⟩ H fun v H' => v = .int .i64 next ∧ Keep Nil H H' :=
  pack_Pacer_Next_sh b ⟨next, by rw [Blk.cell h]; rfl, fun H2 hs => ⟨rfl, shutK (Keep.refl _ _) hs⟩⟩
theorem go_void {H : Heap} {b : Nat} {gap next : Int} (now : Int) (h : Pcr H b gap next false) : FnW Try.prog f_pack_Pacer_Go ⟨[.pointer (some ⟨b, 0, none⟩), .int .i64 now]⟩ H fun v H' => v = .bool false ∧ Keep Nil H H' := by
  refine pack_Pacer_Go_sh b now ⟨false, by rw [Blk.cell h]; rfl, ?_⟩
  exact fun H2 hs => ⟨rfl, shutK (Keep.refl _ _) hs⟩
theorem packVoid_spec {H : Heap} (now : Int) : FnW Try.prog f_law33_PackVoid ⟨[.int .i64 now]⟩ H fun v H' => v = .bool true ∧ Keep Nil H H' := by
  refine law33_PackVoid_sh now ?_
  unfold law33_PackVoid_p
  refine works_run.mono ?_
  rintro v H1 ⟨rfl, k1⟩
  refine ⟨true, rfl, ifF rfl ?_⟩
  refine NewW.intro fun m hm => ?_
  have b2 : Pcr (H1.upd m (.cells ⟨[.int .i64 0, .int .i64 0, .bool false]⟩ T_pack_Pacer)) m 0 0 false := Blk.upd_eq
  have k2 := k1.new (o := .cells ⟨[.int .i64 0, .int .i64 0, .bool false]⟩ T_pack_Pacer) hm
  generalize H1.upd m (.cells ⟨[.int .i64 0, .int .i64 0, .bool false]⟩ T_pack_Pacer) = H2 at *
  refine (go_nil now).mono ?_
  rintro v H3 ⟨rfl, k3⟩
  refine ⟨false, rfl, ifT rfl ?_⟩
  have b3 : Pcr H3 m 0 0 false := k3.blk b2 (fun h => h)
  refine (go_void now b3).mono ?_
  rintro v H4 ⟨rfl, k4⟩
  refine ⟨false, rfl, ifT rfl ?_⟩
  have b4 : Pcr H4 m 0 0 false := k4.blk b3 (fun h => h)
  refine next_nil.mono ?_
  rintro v H5 ⟨rfl, k5⟩
  have b5 : Pcr H5 m 0 0 false := k5.blk b4 (fun h => h)
  refine ⟨0, rfl, ?_⟩
  refine (next_run b5).mono ?_
  rintro v H6 ⟨rfl, k6⟩
  exact ⟨0, rfl, fun H7 hs => ⟨rfl, shutK ((((k2.trans k3).trans k4).trans k5).trans k6) hs⟩⟩
def Times (H : Heap) (a : Option Addr) (n : Nat) : Prop := ∀ i, i < n → ∃ b o, a = some ⟨b, o, none⟩ ∧ H b ≠ none ∧ ∃ z : Int, H.cell ⟨b, o + i, none⟩ = some (.int .i64 z) ∧ -9223372036854775808 ≤ z ∧ z ≤ 9223372036854775807
theorem Times.at {H : Heap} {a : Option Addr} {n i : Nat} {K : Addr → Prop} (h : Times H a n) (hi : i < n) {z : Int} (hK : ∀ p : Addr, (∃ z : Int, H.cell p = some (.int .i64 z)) → K p) : NilP a fun q => InB (i : Int) n fun j => elemAt q j 1 K := by
  obtain ⟨b, o, rfl, _, z, hz, _⟩ := h i hi
  refine ⟨by omega, by omega, ?_⟩
  show K ⟨b, o + (i : Int).toNat * 1, none⟩
  refine hK _ ⟨z, ?_⟩
  rw [Int.toNat_natCast, Nat.mul_one]; exact hz
end Go.Proofs.Ytgdkenndkhnkdaa
