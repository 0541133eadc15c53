/-
  Layer 4 in plain data: timers rising by key, and the time; what is done to them.
-/
import Derived.Test.YtdhjglkacnhhcaaSh13
set_option linter.all false
namespace Go.Wheel

abbrev Ent := Int × Int
abbrev Up (L : List Ent) : Prop := L.Pairwise fun a b => a.1 < b.1
def maxT : Int := 1099511627776

def dueL (k : Int) : List Ent → Option Int
  | [] => none
  | e :: L => if e.1 = k then some e.2 else dueL k L
def wo (L : List Ent) (k : Int) : List Ent := L.filter fun e => decide (e.1 ≠ k)
def lowL (L : List Ent) (k : Int) : List Ent := L.takeWhile fun e => decide (e.1 < k)
def upL (L : List Ent) (k : Int) : List Ent := L.dropWhile fun e => decide (e.1 < k)
def insL (L : List Ent) (k t : Int) : List Ent := lowL (wo L k) k ++ (k, t) :: upL (wo L k) k
def minL : List Ent → Option Int
  | [] => none
  | e :: L => match minL L with
    | none => some e.2
    | some m => some (min e.2 m)
def keysAt (L : List Ent) (t : Int) : List Int := (L.filter fun e => decide (e.2 = t)).map (·.1)
def restAt (L : List Ent) (t : Int) : List Ent := L.filter fun e => decide (e.2 ≠ t)
def skipL : Nat → List Ent → Int → List Int × List Ent
  | 0, L, _ => ([], L)
  | f + 1, L, e => match minL L with
    | none => ([], L)
    | some t => if e < t then ([], L) else ((keysAt L t) ++ (skipL f (restAt L t) e).1, (skipL f (restAt L t) e).2)

structure WM where
  L : List Ent
  now : Int
structure WM.Ok (M : WM) : Prop where
  up : Up M.L
  len : M.L.length ≤ 256
  lo : 0 ≤ M.now
  hi : M.now ≤ maxT
  all : ∀ e ∈ M.L, M.now < e.2 ∧ e.2 ≤ maxT
def WM.may (M : WM) (n : Int) : Bool := decide (1 ≤ n) && decide (n ≤ maxT - M.now)
def WM.set (M : WM) (k n : Int) : Int × WM := if M.may n = false then (2, M) else if dueL k M.L = none ∧ M.L.length = 256 then (4, M) else (0, ⟨insL M.L k (M.now + n), M.now⟩)
def WM.stop (M : WM) (k : Int) : Int × WM := if dueL k M.L = none then (5, M) else (0, ⟨wo M.L k, M.now⟩)
def WM.skip (M : WM) (n : Int) : List Int × Int × WM := if M.may n = false then ([], 2, M) else ((skipL 257 M.L (M.now + n)).1, 0, ⟨(skipL 257 M.L (M.now + n)).2, M.now + n⟩)

/-! ### What is due -/
theorem due_none {k : Int} : ∀ {L : List Ent}, dueL k L = none ↔ ∀ e ∈ L, e.1 ≠ k
  | [] => by simp [dueL]
  | e :: L => by
    unfold dueL
    by_cases h : e.1 = k
    · simp [h]
    · rw [if_neg h, due_none]; simp [h]
theorem due_mem {k t : Int} : ∀ {L : List Ent}, dueL k L = some t → (k, t) ∈ L
  | [], h => by cases h
  | e :: L, h => by
    unfold dueL at h
    by_cases he : e.1 = k
    · rw [if_pos he] at h; cases h; subst he; exact List.mem_cons_self
    · rw [if_neg he] at h; exact List.mem_cons_of_mem _ (due_mem h)
theorem up_inj {L : List Ent} (h : Up L) {a b : Ent} (ha : a ∈ L) (hb : b ∈ L) (e : a.1 = b.1) : a = b := by
  induction L with
  | nil => cases ha
  | cons x L ih =>
    rw [Up, List.pairwise_cons] at h
    rcases List.mem_cons.1 ha with e1 | ha' <;> rcases List.mem_cons.1 hb with e2 | hb'
    · rw [e1, e2]
    · have := h.1 _ hb'; rw [← e1] at this; omega
    · have := h.1 _ ha'; rw [← e2] at this; omega
    · exact ih h.2 ha' hb'
theorem due_of {L : List Ent} (h : Up L) {k t : Int} (hm : (k, t) ∈ L) : dueL k L = some t := by
  cases hd : dueL k L with
  | none => exact absurd rfl (due_none.1 hd _ hm)
  | some u => have := up_inj h hm (due_mem hd) rfl; cases this; rfl
theorem due_some {L : List Ent} (h : Up L) {k t : Int} : dueL k L = some t ↔ (k, t) ∈ L := ⟨due_mem, due_of h⟩
theorem up_filter {L : List Ent} (h : Up L) (p : Ent → Bool) : Up (L.filter p) := List.Pairwise.filter p h
theorem up_wo {L : List Ent} (h : Up L) (k : Int) : Up (wo L k) := up_filter h _
theorem mem_wo {L : List Ent} {k : Int} {e : Ent} : e ∈ wo L k ↔ e ∈ L ∧ e.1 ≠ k := by unfold wo; simp [List.mem_filter]
theorem wo_none {L : List Ent} {k : Int} (h : dueL k L = none) : wo L k = L := by
  unfold wo
  rw [List.filter_eq_self]
  intro e he
  exact decide_eq_true (due_none.1 h e he)
theorem due_wo (L : List Ent) (k j : Int) (h : Up L) : dueL j (wo L k) = if j = k then none else dueL j L := by
  by_cases e : j = k
  · subst e; rw [if_pos rfl, due_none]; intro x hx; exact (mem_wo.1 hx).2
  · rw [if_neg e]
    cases hd : dueL j L with
    | none => rw [due_none] at hd ⊢; intro x hx; exact hd x (mem_wo.1 hx).1
    | some t => rw [due_some (up_wo h k), mem_wo]; exact ⟨due_mem hd, e⟩
theorem low_up (L : List Ent) (k : Int) : lowL L k ++ upL L k = L := List.takeWhile_append_dropWhile
theorem mem_low {L : List Ent} {k : Int} {e : Ent} (h : e ∈ lowL L k) : e.1 < k := by
  unfold lowL at h
  induction L with
  | nil => cases h
  | cons x L ih =>
    rw [List.takeWhile_cons] at h
    split at h
    · rename_i hx
      rcases List.mem_cons.1 h with rfl | h
      · exact of_decide_eq_true hx
      · exact ih h
    · cases h
theorem mem_up {L : List Ent} (h : Up L) {k : Int} {e : Ent} (he : e ∈ upL L k) : k ≤ e.1 := by
  unfold upL at he
  induction L with
  | nil => cases he
  | cons x L ih =>
    rw [List.dropWhile_cons] at he
    rw [Up, List.pairwise_cons] at h
    split at he
    · exact ih h.2 he
    · rename_i hx
      simp only [decide_eq_true_eq] at hx
      rcases List.mem_cons.1 he with rfl | he
      · omega
      · have := h.1 _ he; omega
theorem ins_perm (L : List Ent) (k t : Int) : (insL L k t).Perm ((k, t) :: wo L k) := by
  unfold insL
  refine (List.perm_middle).trans ?_
  rw [low_up]
theorem mem_ins {L : List Ent} {k t : Int} {e : Ent} : e ∈ insL L k t ↔ e = (k, t) ∨ (e ∈ L ∧ e.1 ≠ k) := by
  rw [(ins_perm L k t).mem_iff, List.mem_cons, mem_wo]
theorem up_ins {L : List Ent} (h : Up L) (k t : Int) : Up (insL L k t) := by
  have hw := up_wo h k
  have hs : Up (lowL (wo L k) k ++ upL (wo L k) k) := by rw [low_up]; exact hw
  rw [Up, List.pairwise_append] at hs
  unfold insL
  rw [Up, List.pairwise_append]
  refine ⟨hs.1, ?_, ?_⟩
  · rw [List.pairwise_cons]
    refine ⟨fun e he => ?_, hs.2.1⟩
    have h1 := mem_up hw he
    have h2 : e ∈ wo L k := by rw [← low_up (wo L k) k]; exact List.mem_append_right _ he
    have h3 := (mem_wo.1 h2).2
    show k < e.1
    omega
  · intro a ha b hb
    rcases List.mem_cons.1 hb with rfl | hb
    · exact mem_low ha
    · exact hs.2.2 a ha b hb
theorem due_ins {L : List Ent} (h : Up L) (k t j : Int) : dueL j (insL L k t) = if j = k then some t else dueL j L := by
  by_cases e : j = k
  · subst e; rw [if_pos rfl, due_some (up_ins h _ _), mem_ins]; exact .inl rfl
  · rw [if_neg e]
    cases hd : dueL j L with
    | none =>
      rw [due_none] at hd ⊢
      intro x hx
      rcases mem_ins.1 hx with rfl | hx
      · exact fun h => e h.symm
      · exact hd x hx.1
    | some u => rw [due_some (up_ins h _ _), mem_ins]; exact .inr ⟨due_mem hd, e⟩
theorem len_wo {L : List Ent} (h : Up L) {k t : Int} (hd : dueL k L = some t) : (wo L k).length + 1 = L.length := by
  induction L with
  | nil => cases hd
  | cons x L ih =>
    have h' := h
    rw [Up, List.pairwise_cons] at h
    unfold dueL at hd
    unfold wo
    by_cases e : x.1 = k
    · rw [List.filter_cons_of_neg (by simpa using e)]
      have : L.filter (fun e => decide (e.1 ≠ k)) = L := by
        rw [List.filter_eq_self]
        intro y hy
        have := h.1 y hy
        exact decide_eq_true (by omega)
      rw [this]; rfl
    · rw [if_neg e] at hd
      rw [List.filter_cons_of_pos (by simpa using e)]
      have := ih h.2 hd
      unfold wo at this
      simp only [List.length_cons]; omega
theorem len_wo_le (L : List Ent) (k : Int) : (wo L k).length ≤ L.length := List.length_filter_le _ _
theorem len_ins (L : List Ent) (k t : Int) : (insL L k t).length = (wo L k).length + 1 := (ins_perm L k t).length_eq
theorem len_ins_le {L : List Ent} (h : Up L) {k t : Int} (hL : L.length ≤ 256) (hf : ¬(dueL k L = none ∧ L.length = 256)) : (insL L k t).length ≤ 256 := by
  rw [len_ins]
  cases hd : dueL k L with
  | none => have := len_wo_le L k; rw [hd] at hf; simp at hf; omega
  | some u => have := len_wo h hd; omega
/-! ### The earliest -/
theorem min_none {L : List Ent} : minL L = none ↔ L = [] := by
  cases L with
  | nil => simp [minL]
  | cons e L => unfold minL; split <;> simp
theorem min_le : ∀ {L : List Ent} {m : Int}, minL L = some m → ∀ e ∈ L, m ≤ e.2
  | [], _, h => by cases h
  | x :: L, m, h => by
    unfold minL at h
    split at h
    · rename_i hn; rw [min_none] at hn; subst hn; cases h; simp
    · rename_i u hu
      cases h
      intro e he
      rcases List.mem_cons.1 he with rfl | he
      · omega
      · have := min_le hu e he; omega
theorem min_mem : ∀ {L : List Ent} {m : Int}, minL L = some m → ∃ e ∈ L, e.2 = m
  | [], _, h => by cases h
  | x :: L, m, h => by
    unfold minL at h
    split at h
    · cases h; exact ⟨x, List.mem_cons_self, rfl⟩
    · rename_i u hu
      cases h
      obtain ⟨e, he, rfl⟩ := min_mem hu
      rcases Int.le_total x.2 e.2 with h1 | h1
      · exact ⟨x, List.mem_cons_self, by omega⟩
      · exact ⟨e, List.mem_cons_of_mem _ he, by omega⟩
theorem min_is {L : List Ent} {m : Int} (h1 : ∃ e ∈ L, e.2 = m) (h2 : ∀ e ∈ L, m ≤ e.2) : minL L = some m := by
  cases h : minL L with
  | none => rw [min_none] at h; subst h; obtain ⟨_, h, _⟩ := h1; cases h
  | some u =>
    obtain ⟨e, he, rfl⟩ := h1
    obtain ⟨d, hd, rfl⟩ := min_mem h
    have := min_le h e he
    have := h2 d hd
    congr 1; omega
theorem min_perm {L L' : List Ent} (h : L.Perm L') : minL L = minL L' := by
  cases e : minL L' with
  | none => rw [min_none] at e ⊢; subst e; exact h.eq_nil
  | some m =>
    obtain ⟨x, hx, rfl⟩ := min_mem e
    exact min_is ⟨x, h.mem_iff.2 hx, rfl⟩ fun y hy => min_le e y (h.mem_iff.1 hy)
/-! ### What comes -/
theorem rest_lt {L : List Ent} {t : Int} (h : minL L = some t) : (restAt L t).length < L.length := by
  obtain ⟨e, he, rfl⟩ := min_mem h
  unfold restAt
  rw [List.length_filter_lt_length_iff_exists]
  exact ⟨e, he, by simp⟩
theorem skip_fuel : ∀ (f g : Nat) (L : List Ent) (e : Int), L.length < f → L.length < g → skipL f L e = skipL g L e
  | 0, _, _, _, h, _ => absurd h (by omega)
  | _ + 1, 0, _, _, _, h => absurd h (by omega)
  | f + 1, g + 1, L, e, h1, h2 => by
    simp only [skipL]
    split
    · rfl
    · rename_i t ht
      split
      · rfl
      · have := rest_lt ht
        rw [skip_fuel f g (restAt L t) e (by omega) (by omega)]
theorem skip_mem : ∀ (f : Nat) (L : List Ent) (t : Int) (x : Ent), x ∈ (skipL f L t).2 → x ∈ L
  | 0, _, _, _, h => h
  | f + 1, L, t, x, h => by
    simp only [skipL] at h
    split at h
    · exact h
    · split at h
      · exact h
      · exact (List.mem_filter.1 (skip_mem f _ _ _ h)).1
theorem skip_up : ∀ (f : Nat) (L : List Ent) (t : Int), Up L → Up (skipL f L t).2
  | 0, _, _, h => h
  | f + 1, L, t, h => by
    simp only [skipL]
    split
    · exact h
    · split
      · exact h
      · exact skip_up f _ _ (up_filter h _)
theorem skip_len : ∀ (f : Nat) (L : List Ent) (t : Int), (skipL f L t).2.length ≤ L.length
  | 0, _, _ => Nat.le_refl _
  | f + 1, L, t => by
    simp only [skipL]
    split
    · exact Nat.le_refl _
    · split
      · exact Nat.le_refl _
      · exact Nat.le_trans (skip_len f _ _) (List.length_filter_le _ _)
theorem skip_all : ∀ (f : Nat) (L : List Ent) (t : Int), L.length < f → ∀ x ∈ (skipL f L t).2, t < x.2
  | 0, _, _, h => absurd h (by omega)
  | f + 1, L, t, h => by
    simp only [skipL]
    split
    · rename_i hn; rw [min_none] at hn; subst hn; simp
    · rename_i m hm
      split
      · intro x hx; have := min_le hm x hx; dsimp only at *; omega
      · have := rest_lt hm
        exact skip_all f _ _ (by omega)
/-- To the next tick: what is due at it. -/
theorem skip_tick {L : List Ent} {now : Int} {f : Nat} (hf : L.length < f) (h : ∀ e ∈ L, now < e.2) : skipL f L (now + 1) = (keysAt L (now + 1), restAt L (now + 1)) := by
  obtain ⟨f, rfl⟩ : ∃ g, f = g + 1 := ⟨f - 1, by omega⟩
  simp only [skipL]
  have nokeys : (∀ e ∈ L, e.2 ≠ now + 1) → keysAt L (now + 1) = [] ∧ restAt L (now + 1) = L := by
    intro h
    refine ⟨?_, ?_⟩
    · unfold keysAt
      rw [List.map_eq_nil_iff, List.filter_eq_nil_iff]
      intro e he; simpa using h e he
    · unfold restAt
      rw [List.filter_eq_self]
      intro e he; simpa using h e he
  split
  · rename_i hn; rw [min_none] at hn; subst hn; rfl
  · rename_i m hm
    split
    · obtain ⟨h1, h2⟩ := nokeys fun e he => by have := min_le hm e he; omega
      rw [h1, h2]
    · have hmt : m = now + 1 := by
        obtain ⟨e, he, rfl⟩ := min_mem hm
        have := h e he
        omega
      subst hmt
      have hr : ∀ e ∈ restAt L (now + 1), now + 1 < e.2 := by
        intro e he
        have h1 := List.mem_filter.1 he
        have h2 := h e h1.1
        have h3 := of_decide_eq_true h1.2
        omega
      have : skipL f (restAt L (now + 1)) (now + 1) = ([], restAt L (now + 1)) := by
        cases f with
        | zero => rfl
        | succ f =>
          simp only [skipL]
          split
          · rfl
          · rename_i u hu
            obtain ⟨e, he, rfl⟩ := min_mem hu
            rw [if_pos (hr e he)]
      rw [this, List.append_nil]
/-- To go on by more is to go on by one, and then by the rest. -/
theorem skip_more {L : List Ent} {now : Int} {n : Nat} {f : Nat} (hf : L.length < f) (h : ∀ e ∈ L, now < e.2) :
    skipL f L (now + (n + 1 : Nat)) = (keysAt L (now + 1) ++ (skipL f (restAt L (now + 1)) (now + 1 + n)).1, (skipL f (restAt L (now + 1)) (now + 1 + n)).2) := by
  have ee : now + ((n + 1 : Nat) : Int) = now + 1 + n := by omega
  rw [ee]
  by_cases hk : ∃ e ∈ L, e.2 = now + 1
  · obtain ⟨g, rfl⟩ : ∃ g, f = g + 1 := ⟨f - 1, by omega⟩
    have hm : minL L = some (now + 1) := min_is hk fun e he => by have := h e he; omega
    have hl := rest_lt hm
    have e1 : skipL (g + 1) L (now + 1 + n) = (keysAt L (now + 1) ++ (skipL g (restAt L (now + 1)) (now + 1 + n)).1, (skipL g (restAt L (now + 1)) (now + 1 + n)).2) := by
      rw [skipL, hm]
      simp only
      rw [if_neg (by omega)]
    rw [e1, skip_fuel g (g + 1) _ _ (by omega) (by omega)]
  · have h1 : keysAt L (now + 1) = [] := by
      unfold keysAt
      rw [List.map_eq_nil_iff, List.filter_eq_nil_iff]
      intro e he
      have : e.2 ≠ now + 1 := fun x => hk ⟨e, he, x⟩
      simpa using this
    have h2 : restAt L (now + 1) = L := by
      unfold restAt
      rw [List.filter_eq_self]
      intro e he
      have : e.2 ≠ now + 1 := fun x => hk ⟨e, he, x⟩
      simpa using this
    rw [h1, h2]; rfl
theorem up_keys {L : List Ent} (h : Up L) (t : Int) : (keysAt L t).Pairwise (· < ·) := by
  unfold keysAt
  rw [List.pairwise_map]
  exact up_filter h _
theorem sorted_eq {a b : List Int} (h : a.Perm b) (h1 : a.Pairwise (· ≤ ·)) (h2 : b.Pairwise (· < ·)) : a = b :=
  List.Perm.eq_of_pairwise (le := (· ≤ ·)) (fun x y _ _ h1 h2 => Int.le_antisymm h1 h2) h1 (h2.imp fun h => Int.le_of_lt h) h
/-! ### Acts keep what holds -/
theorem WM.Ok.set {M : WM} (h : M.Ok) (k n : Int) : (M.set k n).2.Ok := by
  unfold WM.set
  split
  · exact h
  · rename_i hm
    simp only [WM.may, Bool.and_eq_false_iff, decide_eq_false_iff_not, not_or, Decidable.not_not] at hm
    split
    · exact h
    · rename_i hf
      refine ⟨up_ins h.up _ _, len_ins_le h.up h.len hf, h.lo, h.hi, fun e he => ?_⟩
      rcases mem_ins.1 he with rfl | ⟨he, _⟩
      · exact ⟨by show M.now < M.now + n; omega, by show M.now + n ≤ maxT; omega⟩
      · exact h.all e he
theorem WM.Ok.stop {M : WM} (h : M.Ok) (k : Int) : (M.stop k).2.Ok := by
  unfold WM.stop
  split
  · exact h
  · exact ⟨up_wo h.up _, Nat.le_trans (len_wo_le _ _) h.len, h.lo, h.hi, fun e he => h.all e (mem_wo.1 he).1⟩
theorem WM.Ok.skip {M : WM} (h : M.Ok) (n : Int) : (M.skip n).2.2.Ok := by
  unfold WM.skip
  split
  · exact h
  · rename_i hm
    simp only [WM.may, Bool.and_eq_false_iff, decide_eq_false_iff_not, not_or, Decidable.not_not] at hm
    have := h.lo
    refine ⟨skip_up _ _ _ h.up, Nat.le_trans (skip_len _ _ _) h.len, by show 0 ≤ M.now + n; omega, by show M.now + n ≤ maxT; omega, fun e he => ⟨skip_all _ _ _ (by have := h.len; omega) e he, (h.all e (skip_mem _ _ _ _ he)).2⟩⟩
theorem ok0 : (⟨[], 0⟩ : WM).Ok := ⟨List.Pairwise.nil, by simp, by simp, by simp [maxT], by simp⟩
end Go.Wheel
