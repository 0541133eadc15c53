/-
  WheelFull, WheelOnce, WheelSkips.
-/
import Derived.Test.YtdhjglkacnhhcaaWhF
set_option linter.all false
set_option maxRecDepth 100000
namespace Go.Proofs.Ytdhjglkacnhhcaa
open Go.Sh Go.Wheel

/-- One wheel, new since H0. -/
structure Lone (H0 H : Heap) (x : Nat) (F : Nat → Prop) (M : WM) : Prop where
  w : WAt H x F M
  fw : ∀ z, F z → H0 z = none
  keep : Keep Nil H0 H
theorem Lone.step {H0 H H' : Heap} {x : Nat} {F F' : Nat → Prop} {M M' : WM} (h : Lone H0 H x F M) (w : WAt H' x F' M') (s : Stp F H H' F') : Lone H0 H' x F' M' :=
  ⟨w, fun z hz => (s.new z hz).elim (h.fw z) fun h1 => h.keep.free h1, h.keep.then s.keep fun z hz => .inr (h.fw z hz)⟩

/-! ### As many timers as may be -/
def nums (t : Int) : Nat → List Ent
  | 0 => []
  | i + 1 => nums t i ++ [((i : Int), t)]
theorem nums_len (t : Int) : ∀ i, (nums t i).length = i
  | 0 => rfl
  | i + 1 => by simp [nums, nums_len t i]
theorem nums_lt (t : Int) : ∀ (i : Nat) (e : Ent), e ∈ nums t i → e.1 < i
  | 0, e, h => by cases h
  | i + 1, e, h => by
    simp only [nums, List.mem_append, List.mem_singleton] at h
    rcases h with h | rfl
    · have := nums_lt t i e h; omega
    · simp; omega
theorem nums_due (t : Int) : ∀ (i : Nat) (k : Int), (i : Int) ≤ k → dueL k (nums t i) = none := fun i k h => due_none.2 fun e he => by have := nums_lt t i e he; omega
theorem nums_ins (t : Int) (i : Nat) : insL (nums t i) i t = nums t (i + 1) := by
  have h1 : wo (nums t i) i = nums t i := wo_none (nums_due t i i (Int.le_refl _))
  unfold insL
  rw [h1]
  have h2 : lowL (nums t i) i = nums t i := by
    unfold lowL
    have key : ∀ l : List Ent, (∀ e ∈ l, e.1 < (i : Int)) → l.takeWhile (fun e => decide (e.1 < (i : Int))) = l := by
      intro l
      induction l with
      | nil => intro _; rfl
      | cons x l ih =>
        intro h
        rw [List.takeWhile_cons_of_pos (by simpa using h x List.mem_cons_self), ih fun e he => h e (List.mem_cons_of_mem _ he)]
    exact key _ (nums_lt t i)
  have h3 : upL (nums t i) i = [] := by
    have := low_up (nums t i) i
    rw [h2] at this
    simpa using this
  rw [h2, h3]; rfl

theorem full_spec (hsort : SortOk) {H : Heap} (more after : Int) : FnW Try.prog f_law04_WheelFull ⟨[.int .i64 more, .int .i64 after]⟩ H fun v H' => v = .bool true ∧ Keep Nil H H' := by
  refine law04_WheelFull_sh more after ?_
  unfold law04_WheelFull_p
  refine (works_spec hsort).mono ?_
  rintro _ H1 ⟨rfl, k1⟩
  refine ⟨_, rfl, ?_⟩
  rw [Bool.not_true, IfB_false]
  refine new_spec.mono ?_
  rintro _ H2 ⟨b, F2, rfl, w2, k2, f2⟩
  have hl : Lone H H2 b F2 ⟨[], 0⟩ := ⟨w2, fun z hz => k1.free (f2 z hz), k1.trans k2⟩
  refine ⟨_, rfl, (among_spec after (n := 1000) (by omega) (by omega)).mono ?_⟩
  rintro _ _ ⟨rfl, rfl⟩
  refine ⟨_, rfl, (among_spec more (n := 3) (by omega) (by omega)).mono ?_⟩
  rintro _ _ ⟨rfl, rfl⟩
  refine ⟨_, rfl, ?_⟩
  have ha := amongV_lt after (n := 1000) (by omega)
  have hm := amongV_lt more (n := 3) (by omega)
  obtain ⟨t, ht⟩ : ∃ t : Int, t = 1 + (amongV after 1000 : Nat) := ⟨_, rfl⟩
  generalize amongV after 1000 = u at *
  generalize amongV more 3 = r at *
  have hw : IntKind.wrap .i64 (1 + (u : Int)) = t := by rw [wrap_id (by omega) (by omega), ht]
  have hw2 : IntKind.wrap .i64 (256 + (r : Int)) = ((256 + r : Nat) : Int) := by rw [wrap_id (by omega) (by omega)]; omega
  have okn : ∀ i, i ≤ 256 → (⟨nums t i, 0⟩ : WM).Ok := by
    intro i
    induction i with
    | zero => intro _; exact ok0
    | succ i ih =>
      intro hi
      have := (ih (by omega)).set i t
      have e : WM.set ⟨nums t i, 0⟩ i t = (0, ⟨nums t (i + 1), 0⟩) := by
        unfold WM.set
        have : (⟨nums t i, 0⟩ : WM).may t = true := by unfold WM.may maxT; rw [decide_eq_true (by omega), decide_eq_true (by show t ≤ 1099511627776 - 0; omega)]; rfl
        rw [this, if_neg (by simp), if_neg (by rw [nums_len]; omega)]
        show (0, (⟨insL (nums t i) i (0 + t), 0⟩ : WM)) = _
        rw [Int.zero_add, nums_ins]
      rw [e] at this
      exact this
  have may : ∀ i n, 1 ≤ n → n ≤ 2000 → (⟨nums t i, 0⟩ : WM).may n = true := fun i n h1 h2 => by unfold WM.may maxT; rw [decide_eq_true (by omega), decide_eq_true (by show n ≤ 1099511627776 - 0; omega)]; rfl
  refine LoopI.intro (fun m s H3 => ∃ (i : Nat) (F : Nat → Prop), s = ((i : Int), ()) ∧ i ≤ 256 + r ∧ m = 256 + r - i ∧ Lone H H3 b F ⟨nums t (min i 256), 0⟩) (256 + r) ⟨0, _, rfl, Nat.zero_le _, by omega, hl⟩ ?_
  rintro m s H3 ⟨i, F, rfl, hi, rfl, h3⟩ g
  unfold law04_WheelFull_l7
  dsimp only
  rw [hw, hw2]
  by_cases hlt : i < 256 + r
  · rw [decide_eq_true (by omega), IfB_true]
    refine (wset_spec h3.w (okn _ (Nat.min_le_right _ _)) i t).mono ?_
    rintro _ H4 ⟨rfl, F4, w4, s4⟩
    refine ⟨_, rfl, ?_⟩
    by_cases h256 : i < 256
    · have e : WM.set ⟨nums t (min i 256), 0⟩ i t = (0, ⟨nums t (min (i + 1) 256), 0⟩) := by
        rw [Nat.min_eq_left (by omega), Nat.min_eq_left (by omega)]
        unfold WM.set
        rw [may _ _ (by omega) (by omega), if_neg (by simp), if_neg (by rw [nums_len]; omega)]
        show (0, (⟨insL (nums t i) i (0 + t), 0⟩ : WM)) = _
        rw [Int.zero_add, nums_ins]
      rw [e] at w4 ⊢
      rw [show (!(((0 : Int) == 0) == decide ((i : Int) < 256))) = false by rw [decide_eq_true (by omega)]; rfl, IfB_false, wrap_id (by omega) (by omega)]
      exact ⟨256 + r - (i + 1), by omega, i + 1, F4, by simp, by omega, rfl, h3.step w4 s4⟩
    · have e : WM.set ⟨nums t (min i 256), 0⟩ i t = (4, ⟨nums t (min (i + 1) 256), 0⟩) := by
        rw [Nat.min_eq_right (by omega), Nat.min_eq_right (by omega)]
        unfold WM.set
        rw [may _ _ (by omega) (by omega), if_neg (by simp), if_pos ⟨nums_due t 256 i (by omega), nums_len t 256⟩]
      rw [e] at w4 ⊢
      rw [show (!(((4 : Int) == 0) == decide ((i : Int) < 256))) = false by rw [decide_eq_false (by omega)]; rfl, IfB_false, wrap_id (by omega) (by omega)]
      exact ⟨256 + r - (i + 1), by omega, i + 1, F4, by simp, by omega, rfl, h3.step w4 s4⟩
  · rw [decide_eq_false (by omega), IfB_false]
    have hi256 : min i 256 = 256 := Nat.min_eq_right (by omega)
    rw [hi256] at h3
    refine (wlen_spec h3.w).mono ?_
    rintro _ _ ⟨rfl, rfl⟩
    refine ⟨_, rfl, ?_⟩
    rw [show ((((⟨nums t 256, 0⟩ : WM).L.length : Nat) : Int) == 256) = true by show ((((nums t 256).length : Nat) : Int) == 256) = true; rw [nums_len]; rfl, IfB_true]
    rw [wrap_id (n := t + 1) (by omega) (by omega)]
    have ok1 := okn 256 (Nat.le_refl _)
    refine (wset_spec h3.w ok1 5 (t + 1)).mono ?_
    rintro _ H4 ⟨rfl, F4, w4, s4⟩
    have hd5 : dueL 5 (nums t 256) ≠ none := by
      have : ∀ i : Nat, 6 ≤ i → ((5, t) : Ent) ∈ nums t i := by
        intro i
        induction i with
        | zero => intro h; omega
        | succ i ih =>
          intro h
          simp only [nums, List.mem_append, List.mem_singleton]
          by_cases e : i = 5
          · subst e; exact .inr rfl
          · exact .inl (ih (by omega))
      intro hn
      exact due_none.1 hn _ (this 256 (by omega)) rfl
    have e5 : (WM.set ⟨nums t 256, 0⟩ 5 (t + 1)).1 = 0 ∧ (WM.set ⟨nums t 256, 0⟩ 5 (t + 1)).2 = ⟨insL (nums t 256) 5 (0 + (t + 1)), 0⟩ := by
      unfold WM.set
      rw [may _ _ (by omega) (by omega), if_neg (by simp), if_neg (fun h => hd5 h.1)]
      exact ⟨rfl, rfl⟩
    refine ⟨_, rfl, ?_⟩
    rw [e5.1, show ((0 : Int) == 0) = true from rfl, IfB_true]
    have h4 := h3.step w4 s4
    have ok4 := ok1.set 5 (t + 1)
    refine (wset_spec h4.w ok4 ((256 + r : Nat) : Int) 1).mono ?_
    rintro _ H5 ⟨rfl, F5, w5, s5⟩
    have e6 : (WM.set (WM.set ⟨nums t 256, 0⟩ 5 (t + 1)).2 ((256 + r : Nat) : Int) 1).1 = 4 := by
      rw [e5.2]
      unfold WM.set
      have hm1 : (⟨insL (nums t 256) 5 (0 + (t + 1)), 0⟩ : WM).may 1 = true := rfl
      have hup := (okn 256 (Nat.le_refl _)).up
      have hd : dueL ((256 + r : Nat) : Int) (insL (nums t 256) 5 (0 + (t + 1))) = none := by
        rw [due_ins hup, if_neg (by omega)]; exact nums_due t 256 _ (by omega)
      have hln : (insL (nums t 256) 5 (0 + (t + 1))).length = 256 := by
        rw [len_ins]
        cases hx : dueL 5 (nums t 256) with
        | none => exact absurd hx hd5
        | some y => rw [len_wo hup hx, nums_len]
      rw [hm1, if_neg (by simp), if_pos ⟨hd, hln⟩]
    refine ⟨_, rfl, ?_⟩
    rw [e6]
    exact fun H6 hs => ⟨rfl, shutS (h4.step w5 s5).keep hs⟩

/-! ### To skip is to tick so many times -/
def ticks (M : WM) : Nat → List Int × WM
  | 0 => ([], M)
  | n + 1 => ((M.skip 1).1 ++ (ticks (M.skip 1).2.2 n).1, (ticks (M.skip 1).2.2 n).2)
theorem tick_eq {M : WM} (ok : M.Ok) (h : M.now + 1 ≤ maxT) : M.skip 1 = (keysAt M.L (M.now + 1), 0, ⟨restAt M.L (M.now + 1), M.now + 1⟩) := by
  unfold WM.skip
  have : M.may 1 = true := by unfold WM.may; rw [decide_eq_true (by omega), decide_eq_true (by omega)]; rfl
  rw [this]
  simp only [Bool.true_eq_false, if_false]
  rw [skip_tick (by have := ok.len; omega) (fun e he => (ok.all e he).1)]
theorem skip_stop {L : List Ent} {e : Int} (h : ∀ t, minL L = some t → e < t) : ∀ {f : Nat}, skipL f L e = ([], L)
  | 0 => rfl
  | f + 1 => by
    rw [skipL]
    split
    · rfl
    · rename_i t ht
      rw [if_pos (h t ht)]
theorem skip_ticks : ∀ (n : Nat) {M : WM}, M.Ok → M.now + n ≤ maxT → (skipL 257 M.L (M.now + n)) = ((ticks M n).1, (ticks M n).2.L) ∧ (ticks M n).2.now = M.now + n ∧ (ticks M n).2.Ok
  | 0, M, ok, h => by
    refine ⟨?_, by simp [ticks], ok⟩
    have hall := fun e he => (ok.all e he).1
    simp only [ticks]
    have : minL M.L = none ∨ ∃ t, minL M.L = some t ∧ M.now < t := by
      cases hm : minL M.L with
      | none => exact .inl rfl
      | some t => obtain ⟨e, he, rfl⟩ := min_mem hm; exact .inr ⟨_, rfl, hall e he⟩
    refine skip_stop fun t ht => ?_
    rcases this with hm | ⟨t', hm, ht'⟩
    · rw [hm] at ht; cases ht
    · rw [hm] at ht; cases ht; omega
  | n + 1, M, ok, h => by
    have h1 : M.now + 1 ≤ maxT := by omega
    have e1 := tick_eq ok h1
    have ok1 := ok.skip 1
    have ih := skip_ticks n ok1 (by rw [e1]; show M.now + 1 + n ≤ maxT; omega)
    have hm := skip_more (L := M.L) (now := M.now) (n := n) (f := 257) (by have := ok.len; omega) (fun e he => (ok.all e he).1)
    simp only [ticks]
    rw [e1] at ih ⊢
    simp only at ih ⊢
    refine ⟨?_, by rw [ih.2.1]; omega, ih.2.2⟩
    rw [hm, ih.1]
end Go.Proofs.Ytdhjglkacnhhcaa
