/-
  The laws PackVoid and PackPaces over the heap: a pacer that no call made lets nothing go; and what a pacer lets go. Conditions: none beyond those of the given statements.
-/
import Derived.Test.YtgdkenndkhnkdaaL33
import Derived.Test.YtgdkenndkhnkdaaItsP
set_option linter.unusedVariables false
set_option linter.unusedSimpArgs false
set_option maxRecDepth 100000
namespace Go.Proofs.Ytgdkenndkhnkdaa
open Go.Sh
theorem shutK {H0 H H2 : Heap} (k : Keep Nil H0 H) (hs : Shut H0 H H2) : Keep Nil H0 H2 :=
  ⟨fun b hb ha => by
    rcases hs b with e | ⟨e, _, _⟩
    · rw [e]; exact k.same b hb ha
    · exact absurd e ha, fun b ha => by
    rcases hs b with e | ⟨e, _, _⟩
    · rw [e]; exact k.live b ha
    · exact absurd e ha⟩
theorem shutB {H0 H H2 : Heap} {b : Nat} {T : TypeId} {c : Array Value} (h : Blk H b T c) (hs : Shut H0 H H2) : Blk H2 b T c := by
  rcases hs b with e | ⟨_, e, _⟩
  · exact h.same e
  · unfold Blk at h; rw [h] at e; cases e
theorem works_run {H : Heap} : FnW Try.prog f_law33_works ⟨[]⟩ H fun v H' => v = .bool true ∧ Keep Nil H H' := by
  refine (FnQ.run (x := (() : PkTs law33_works_ps)) law33_works_fq rfl rfl (Z := fun _ => False) ?_ (fun _ h => h.elim) (fun b hb => by cases hb) trivial (K := fun y => y.1 = true) (works_c _ rfl)).mono fun v H' hk => ?_
  · simp only [pksA, SimL]
  · obtain ⟨hk, y, hy, _, hv⟩ := hk
    have := hv 0 (gZ fun _ => False)
    obtain ⟨y, u⟩ := y
    simp only at hy
    subst hy
    simp only [pksA, pkA, outA, SimV] at this
    exact ⟨this, hk⟩
def Pcr (H : Heap) (b : Nat) (gap next : Int) (made : Bool) : Prop := Blk H b T_pack_Pacer ⟨[.int .i64 gap, .int .i64 next, .bool made]⟩
theorem next_run {H : Heap} {b : Nat} {gap next : Int} {made : Bool} (h : Pcr H b gap next made) : FnW Try.prog f_pack_Pacer_Next ⟨[.pointer (some ⟨b, 0, none⟩)]⟩ H fun v H' => v = .int .i64 next ∧ Keep Nil H H' :=
  pack_Pacer_Next_sh b ⟨next, by rw [Blk.cell h]; rfl, fun H2 hs => ⟨rfl, shutK (Keep.refl _ _) hs⟩⟩
theorem go_run {H : Heap} {b : Nat} {gap next : Int} (now : Int) (h : Pcr H b gap next true) (hg : 0 ≤ gap ∧ gap ≤ 100000) (hn : -9223372036854775808 ≤ now) : FnW Try.prog f_pack_Pacer_Go ⟨[.pointer (some ⟨b, 0, none⟩), .int .i64 now]⟩ H fun v H' =>
    v = .bool (decide (next ≤ min now 1099511627776)) ∧ Keep (fun x => x = b) H H' ∧ Pcr H' b gap (if next ≤ min now 1099511627776 then min now 1099511627776 + gap else next) true := by
  refine pack_Pacer_Go_sh b now ⟨true, by rw [Blk.cell h]; rfl, ?_⟩
  refine ifF rfl ⟨next, by rw [Blk.cell h]; rfl, ?_⟩
  unfold pack_Pacer_Go_j0
  refine IfB.intro (fun h1 H2 hs => ?_) (fun h1 => ?_)
  · have h1 : min now 1099511627776 < next := by simpa using h1
    refine ⟨by rw [decide_eq_false (by omega)], (shutK (Keep.refl _ _) hs).mono fun _ x => x.elim, ?_⟩
    rw [if_neg (by omega)]
    exact shutB h hs
  · have h1 : ¬ (min now 1099511627776 < next) := by simpa using h1
    refine ⟨gap, by rw [Blk.cell h]; rfl, StCell.blk h (by simp) rfl fun H2 hs => ?_⟩
    have e : IntKind.wrap .i64 (min now 1099511627776 + gap) = min now 1099511627776 + gap := wr_i64 (by omega) (by omega)
    rw [e] at hs
    refine ⟨by rw [decide_eq_true (by omega)], ?_, ?_⟩
    · have k : Keep (fun x => x = b) H (H.upd b (.cells (#[.int .i64 gap, .int .i64 next, .bool true].setIfInBounds 1 (.int .i64 (min now 1099511627776 + gap))) T_pack_Pacer (0, 0))) := (Keep.refl _ _).upd (.inl rfl)
      exact ⟨fun x hx ha => by
        rcases hs x with e | ⟨e, _, _⟩
        · rw [e]; exact k.same x hx ha
        · exact absurd e ha, fun x ha => by
        rcases hs x with e | ⟨e, _, _⟩
        · rw [e]; exact k.live x ha
        · exact absurd e ha⟩
    · rw [if_pos (by omega)]
      exact shutB (c := ⟨[.int .i64 gap, .int .i64 (min now 1099511627776 + gap), .bool true]⟩) Blk.upd_eq hs
theorem new_run {H : Heap} (gap : Int) : FnW Try.prog f_pack_New ⟨[.int .i64 gap]⟩ H fun v H' => Keep Nil H H' ∧
    (((gap < 0 ∨ 100000 < gap) ∧ v = .tuple ⟨[.pointer none, .int .i64 2]⟩) ∨ (0 ≤ gap ∧ gap ≤ 100000) ∧ ∃ m, H m = none ∧ v = .tuple ⟨[.pointer (some ⟨m, 0, none⟩), .int .i64 0]⟩ ∧ Pcr H' m gap 0 true) := by
  refine pack_New_sh gap ?_
  unfold pack_New_p
  have bad : (gap < 0 ∨ 100000 < gap) → pack_New_j0 gap true H fun v H1 => ∀ H2, Shut H H1 H2 → Keep Nil H H2 ∧ (((gap < 0 ∨ 100000 < gap) ∧ v = .tuple ⟨[.pointer none, .int .i64 2]⟩) ∨ (0 ≤ gap ∧ gap ≤ 100000) ∧ ∃ m, H m = none ∧ v = .tuple ⟨[.pointer (some ⟨m, 0, none⟩), .int .i64 0]⟩ ∧ Pcr H2 m gap 0 true) :=
    fun hb H2 hs => ⟨shutK (Keep.refl _ _) hs, .inl ⟨hb, rfl⟩⟩
  refine IfB.intro (fun h1 => bad (.inl (by simpa using h1))) (fun h1 => ?_)
  have h1 : ¬ gap < 0 := by simpa using h1
  by_cases h2 : 100000 < gap
  · rw [decide_eq_true (by omega)]; exact bad (.inr h2)
  · rw [decide_eq_false (by omega)]
    unfold pack_New_j0
    refine ifF rfl (NewW.intro fun m hm H2 hs => ⟨shutK ((Keep.refl _ _).new hm) hs, .inr ⟨by omega, m, hm, rfl, shutB (c := ⟨[.int .i64 gap, .int .i64 0, .bool true]⟩) Blk.upd_eq hs⟩⟩)
def Times (H : Heap) (a : Option Addr) (n : Nat) : Prop := ∀ i, i < n → ∃ b o, a = some ⟨b, o, none⟩ ∧ H b ≠ none ∧ ∃ z : Int, H.cell ⟨b, o + i, none⟩ = some (.int .i64 z) ∧ -9223372036854775808 ≤ z ∧ z ≤ 9223372036854775807
theorem Times.at {H : Heap} {a : Option Addr} {n i : Nat} {K : Addr → Prop} (h : Times H a n) (hi : i < n) {z : Int} (hK : ∀ p : Addr, (∃ z : Int, H.cell p = some (.int .i64 z)) → K p) : NilP a fun q => InB (i : Int) n fun j => elemAt q j 1 K := by
  obtain ⟨b, o, rfl, _, z, hz, _⟩ := h i hi
  refine ⟨by omega, by omega, ?_⟩
  show K ⟨b, o + (i : Int).toNat * 1, none⟩
  refine hK _ ⟨z, ?_⟩
  rw [Int.toNat_natCast, Nat.mul_one]; exact hz
theorem packPaces_spec {H : Heap} (gap : Int) (a : Option Addr) (n c : Nat) (ht : Times H a n) (hn : n ≤ 9223372036854775807) : FnW Try.prog f_law33_PackPaces ⟨[.int .i64 gap, .slice a n c]⟩ H fun v H' => v = .bool true ∧ Keep Nil H H' := by
  refine law33_PackPaces_sh gap a n c ?_
  unfold law33_PackPaces_p
  refine (new_run gap).mono ?_
  rintro v H1 ⟨k1, ⟨hb, rfl⟩ | ⟨hg, m, hm, rfl, b1⟩⟩
  · refine ⟨none, 2, rfl, ifT rfl (ifT rfl (ifT rfl ?_))⟩
    refine IfB.intro (fun _ => ?_) (fun h1 => ?_)
    · refine works_run.mono ?_
      rintro v H2 ⟨rfl, k2⟩
      exact ⟨true, rfl, fun H3 hs => ⟨rfl, shutK (k1.trans k2) hs⟩⟩
    · have h1 : ¬ gap < 0 := by simpa using h1
      refine ifT (decide_eq_true (by omega)) (works_run.mono ?_)
      rintro v H2 ⟨rfl, k2⟩
      exact ⟨true, rfl, fun H3 hs => ⟨rfl, shutK (k1.trans k2) hs⟩⟩
  · refine ⟨some ⟨m, 0, none⟩, 0, rfl, ifF rfl ?_⟩
    refine ⟨fun k x H' => ∃ (i : Nat) (next last : Int), x = (next, last, (i : Int), ()) ∧ i + k = n ∧ Keep Nil H H' ∧ Pcr H' m gap next true ∧ (last = -1 ∧ next = 0 ∨ 0 ≤ last ∧ last ≤ 1099511627776 ∧ next = last + gap), n, ⟨0, 0, -1, rfl, by omega, k1, b1, .inl ⟨rfl, rfl⟩⟩, ?_⟩
    rintro k x H4 ⟨i, next, last, rfl, hik, k4, b4, hlast⟩ g
    simp only
    unfold law33_PackPaces_l6
    have fin : law33_PackPaces_j0 gap a n c (some ⟨m, 0, none⟩) next last (i : Int) (fun x' H' => ∃ k', k' < k ∧ ∃ (i : Nat) (next last : Int), x' = (next, last, (i : Int), ()) ∧ i + k' = n ∧ Keep Nil H H' ∧ Pcr H' m gap next true ∧ (last = -1 ∧ next = 0 ∨ 0 ≤ last ∧ last ≤ 1099511627776 ∧ next = last + gap)) false H4 fun v H1 => ∀ H2, Shut H H1 H2 → v = .bool true ∧ Keep Nil H H2 := by
      unfold law33_PackPaces_j0
      refine ifF rfl (ifT (decide_eq_true (by omega)) (ifT (decide_eq_true (by omega)) (works_run.mono ?_)))
      rintro v H2 ⟨rfl, k2⟩
      exact ⟨true, rfl, fun H3 hs => ⟨rfl, shutK (k4.trans k2) hs⟩⟩
    refine IfB.intro (fun h1 => ?_) (fun h1 => fin)
    have h1 : i < n := by have := of_decide_eq_true h1; omega
    by_cases h2 : i < 60
    · rw [decide_eq_true (by omega)]
      unfold law33_PackPaces_j0
      refine ifT rfl ?_
      obtain ⟨b, o, ha, hlive, z, hz, hz1, hz2⟩ := ht i h1
      have hz4 : H4.cell ⟨b, o + i, none⟩ = some (.int .i64 z) := by
        have : H4 b = H b := k4.same b (fun h => h) hlive
        unfold Heap.cell at hz ⊢
        simp only [this]; exact hz
      refine NilP.intro _ ha ⟨by omega, by omega, ?_⟩
      show ∃ x49 : Int, H4.cell ⟨b, o + (i : Int).toNat * 1, none⟩ = some (.int .i64 x49) ∧ _
      rw [Int.toNat_natCast, Nat.mul_one]
      refine ⟨z, hz4, NilP.intro _ ha ⟨by omega, by omega, ?_⟩⟩
      show ∃ x55 : Int, H4.cell ⟨b, o + (i : Int).toNat * 1, none⟩ = some (.int .i64 x55) ∧ _
      rw [Int.toNat_natCast, Nat.mul_one]
      refine ⟨z, hz4, (go_run z b4 hg hz1).mono ?_⟩
      rintro v H5 ⟨rfl, k5, b5⟩
      have k45 : Keep Nil H H5 := k4.then k5 fun x hx => .inr (by subst hx; exact hm)
      generalize hmin : min z 1099511627776 = w at *
      have hw : w ≤ 1099511627776 := by omega
      refine ⟨_, rfl, ifF (by
        have : decide (w ≥ next) = decide (next ≤ w) := rfl
        rw [this]; simp) ?_⟩
      have step : ∀ (next' last' : Int), Pcr H5 m gap next' true → (last' = -1 ∧ next' = 0 ∨ 0 ≤ last' ∧ last' ≤ 1099511627776 ∧ next' = last' + gap) → law33_PackPaces_j2 gap a n c (some ⟨m, 0, none⟩) (i : Int) (fun x' H' => ∃ k', k' < k ∧ ∃ (i : Nat) (next last : Int), x' = (next, last, (i : Int), ()) ∧ i + k' = n ∧ Keep Nil H H' ∧ Pcr H' m gap next true ∧ (last = -1 ∧ next = 0 ∨ 0 ≤ last ∧ last ≤ 1099511627776 ∧ next = last + gap)) next' last' H5 fun v H1 => ∀ H2, Shut H H1 H2 → v = .bool true ∧ Keep Nil H H2 := fun next' last' b5 hl => by
        unfold law33_PackPaces_j2
        refine (next_run b5).mono ?_
        rintro v H6 ⟨rfl, k6⟩
        refine ⟨_, rfl, ifF (by simp) ?_⟩
        rw [wr_i64 (n := (i : Int) + 1) (by omega) (by omega)]
        exact ⟨k - 1, by omega, i + 1, next', last', rfl, by omega, k45.trans k6, k6.blk b5 (fun h => h), hl⟩
      by_cases hgo : next ≤ w
      · rw [if_pos hgo] at b5
        have hwn : IntKind.wrap .i64 (w + gap) = w + gap := wr_i64 (by omega) (by omega)
        have j1 : law33_PackPaces_j1 gap a n c (some ⟨m, 0, none⟩) next last (i : Int) z true (fun x' H' => ∃ k', k' < k ∧ ∃ (i : Nat) (next last : Int), x' = (next, last, (i : Int), ()) ∧ i + k' = n ∧ Keep Nil H H' ∧ Pcr H' m gap next true ∧ (last = -1 ∧ next = 0 ∨ 0 ≤ last ∧ last ≤ 1099511627776 ∧ next = last + gap)) false H5 fun v H1 => ∀ H2, Shut H H1 H2 → v = .bool true ∧ Keep Nil H H2 := by
          unfold law33_PackPaces_j1
          rw [hmin, hwn]
          exact ifF rfl (ifT rfl (step _ _ b5 (.inr ⟨by omega, hw, rfl⟩)))
        refine ifT (decide_eq_true hgo) (IfB.intro (fun h3 => ?_) (fun h3 => ?_))
        · have h3 : 0 ≤ last := by have := of_decide_eq_true h3; omega
          rw [wr_i64 (n := w - last) (by omega) (by omega), decide_eq_false (p := w - last < gap) (by omega), decide_eq_true hgo]
          exact j1
        · rw [decide_eq_true hgo]; exact j1
      · rw [if_neg hgo] at b5
        refine ifF (decide_eq_false hgo) ?_
        rw [decide_eq_false hgo]
        unfold law33_PackPaces_j1
        exact ifF rfl (ifF rfl (step _ _ b5 hlast))
    · rw [decide_eq_false (by omega)]
      exact fin
end Go.Proofs.Ytgdkenndkhnkdaa
