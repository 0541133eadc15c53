/-
  WheelPlays: a wheel answers what the document says.
-/
import Derived.Test.YtdhjglkacnhhcaaWh9
set_option linter.all false
set_option maxRecDepth 100000
namespace Go.Proofs.Ytdhjglkacnhhcaa
open Go.Sh Go.Wheel

/-- Acts that are handed in. -/
def IsActs (H : Heap) (a : Option Addr) (n : Nat) : Prop := ∀ i, i < n → ∃ b o, a = some ⟨b, o, none⟩ ∧ ∃ (d k m : Int),
  H.cell ⟨b, o + i * 3, none⟩ = some (.int .i64 d) ∧ H.cell ⟨b, o + i * 3 + 1, none⟩ = some (.int .i64 k) ∧ H.cell ⟨b, o + i * 3 + 2, none⟩ = some (.int .i64 m)
theorem pair0 {H H1 H2 : Heap} {b y : Nat} {F : Nat → Prop} (w1 : WAt H1 b F ⟨[], 0⟩) (k1 : Keep Nil H H1) (f1 : ∀ z, F z → H z = none) (hy : H1 y = none) (e : H2 = H1.upd y (.cells ⟨[.slice none 0 0, .int .i64 0]⟩ T_ref04_Wheel (0, 0))) :
    Pair H H2 b y F (Gt y none) ⟨[], 0⟩ ⟨[], 0⟩ := by
  subst e
  have k2 : Keep Nil H1 (H1.upd y (.cells ⟨[.slice none 0 0, .int .i64 0]⟩ T_ref04_Wheel (0, 0))) := (Keep.refl _ _).new hy
  refine ⟨w1.keep k2 fun _ _ h => h, ⟨none, 0, ⟨List.Pairwise.nil, by simp, (fun e h => by cases h), Blk.upd_eq, Sh.Own.nil⟩, rfl⟩, fun z hz hg => ?_, f1, fun z hz => ?_, k1.trans k2⟩
  · rcases hg with rfl | hg
    · exact w1.live hz hy
    · cases hg
  · rcases hz with rfl | hz
    · exact k1.free hy
    · cases hz

theorem plays_spec (hsort : SortOk) {H : Heap} {a : Option Addr} {n cap : Nat} (ha : IsActs H a n) : FnW Try.prog f_law04_WheelPlays ⟨[.slice a n cap]⟩ H fun v H' => v = .bool true ∧ Keep Nil H H' := by
  refine law04_WheelPlays_sh a n cap ?_
  unfold law04_WheelPlays_p
  refine new_spec.mono ?_
  rintro _ H1 ⟨b, F1, rfl, w1, k1, f1⟩
  refine ⟨_, rfl, NewW.intro fun y hy => ?_⟩
  rw [show (some (⟨b, 0, none⟩ : Addr)).isNone = false from rfl, IfB_false]
  have hp := pair0 w1 k1 f1 hy rfl
  generalize H1.upd y (.cells ⟨[.slice none 0 0, .int .i64 0]⟩ T_ref04_Wheel (0, 0)) = H2 at hp
  refine LoopI.intro (fun m s H3 => ∃ (i : Nat) (F G : Nat → Prop) (M : WM), s = ((i : Int), ()) ∧ i ≤ 100 ∧ m = 100 - i ∧ Pair H H3 b y F G M M ∧ M.Ok) 100 ⟨0, _, _, _, rfl, Nat.zero_le _, by omega, hp, ok0⟩ ?_
  rintro m s H3 ⟨i, F, G, M, rfl, hi, rfl, h3, ok⟩ g
  unfold law04_WheelPlays_l5
  dsimp only
  have j0 : ∀ w : Bool, (w = true → i < n ∧ i < 100) → ∀ nx, (∀ F' G' M' H', Pair H H' b y F' G' M' M' → M'.Ok → nx ((IntKind.wrap .i64 ((i : Int) + 1)), ()) H') → law04_WheelPlays_j0 a n cap (some ⟨b, 0, none⟩) y i nx w H3 fun v H1 => ∀ H2, Shut H H1 H2 → v = .bool true ∧ Keep Nil H H2 := by
    intro w hw nx hnx
    unfold law04_WheelPlays_j0
    cases w with
    | false =>
      rw [IfB_false]
      refine (works_spec hsort).mono ?_
      rintro _ H4 ⟨rfl, k4⟩
      exact ⟨_, rfl, fun H5 hs => ⟨rfl, shutS (h3.keep.trans k4) hs⟩⟩
    | true =>
      obtain ⟨hin, hi100⟩ := hw rfl
      rw [IfB_true]
      obtain ⟨q, o, rfl, d, k, e, c0, c1, c2⟩ := ha i hin
      refine NilP.intro _ rfl (InB.intro i rfl hin ?_)
      rw [elemAt_none]
      refine ⟨_, cell_keep h3.keep c0, _, cell_keep h3.keep c1, _, cell_keep h3.keep c2, (do_spec hsort h3 ok d k e).mono ?_⟩
      rintro _ H4 ⟨rfl, F4, G4, h4⟩
      have ok4 := ok_act ok d k e
      refine ⟨_, rfl, ?_⟩
      rw [Bool.not_true, IfB_false]
      refine (same_spec h4 ok4).mono ?_
      rintro _ H5 ⟨rfl, k5⟩
      have h5 := h4.keepN k5
      refine ⟨_, rfl, ?_⟩
      unfold law04_WheelPlays_j1
      rw [Bool.not_true, IfB_false]
      refine NilP.intro _ rfl (InB.intro i rfl hin ?_)
      rw [elemAt_none]
      refine ⟨_, cell_keep h5.keep c1, (wdue_spec h5.w k).mono ?_⟩
      rintro _ _ ⟨rfl, rfl⟩
      refine ⟨_, _, rfl, NilP.intro _ rfl (InB.intro i rfl hin ?_)⟩
      rw [elemAt_none]
      refine ⟨_, cell_keep h5.keep c1, ?_⟩
      obtain ⟨ar, capr, hr, hG⟩ := h5.r
      refine (rdue_spec hr k).mono ?_
      rintro _ _ ⟨rfl, rfl⟩
      refine ⟨_, _, rfl, ?_⟩
      unfold law04_WheelPlays_j2
      rw [show (((dueL k (actM M d k e).L).getD 0) != ((dueL k (actM M d k e).L).getD 0)) = false by simp, IfB_false, show (!((dueL k (actM M d k e).L).isSome == (dueL k (actM M d k e).L).isSome)) = false by simp, IfB_false]
      exact hnx _ _ _ _ h5 ok4
  have hn : ∀ F' G' M' H', Pair H H' b y F' G' M' M' → M'.Ok → i < 100 → (fun x' H' => ∃ k', k' < 100 - i ∧ ∃ (i : Nat) (F G : Nat → Prop) (M : WM), x' = ((i : Int), ()) ∧ i ≤ 100 ∧ k' = 100 - i ∧ Pair H H' b y F G M M ∧ M.Ok) ((IntKind.wrap .i64 ((i : Int) + 1)), ()) H' :=
    fun F' G' M' H' hp' ok' h100 => ⟨100 - (i + 1), by omega, i + 1, F', G', M', by rw [wrap_id (by omega) (by omega)]; simp, by omega, rfl, hp', ok'⟩
  by_cases hlt : i < n
  · rw [decide_eq_true (by omega), IfB_true]
    by_cases h100 : i < 100
    · exact j0 _ (fun _ => ⟨hlt, h100⟩) _ fun F' G' M' H' hp' ok' => hn F' G' M' H' hp' ok' h100
    · rw [decide_eq_false (by omega)]
      unfold law04_WheelPlays_j0
      rw [IfB_false]
      refine (works_spec hsort).mono ?_
      rintro _ H4 ⟨rfl, k4⟩
      exact ⟨_, rfl, fun H5 hs => ⟨rfl, shutS (h3.keep.trans k4) hs⟩⟩
  · rw [decide_eq_false (by omega), IfB_false]
    unfold law04_WheelPlays_j0
    rw [IfB_false]
    refine (works_spec hsort).mono ?_
    rintro _ H4 ⟨rfl, k4⟩
    exact ⟨_, rfl, fun H5 hs => ⟨rfl, shutS (h3.keep.trans k4) hs⟩⟩
end Go.Proofs.Ytdhjglkacnhhcaa
