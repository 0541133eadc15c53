/-
  Layer 3, the ring: what it holds, and how a slot turns from one state into another.
-/
import Derived.Test.YtligjponbhnedaaPool5
set_option maxRecDepth 100000
namespace Go.Proofs.Ytligjponbhnedaa
open Go.Sh

/-- What is done and not reaped, what is posted and not done, how many were reaped. -/
structure RingM where
  N : Nat
  done : List (Int × Int)
  posted : List (Int × Int)
  reaped : Nat

namespace RingM
def win (M : RingM) : List (Int × Int) := M.done ++ M.posted
def st (M : RingM) (j : Nat) : Int := if j < M.done.length then 2 else if j < M.done.length + M.posted.length then 1 else 0
def post (M : RingM) (h : Int × Int) : Int × RingM := if M.done.length + M.posted.length = M.N then (4, M) else (0, { M with posted := M.posted ++ [h] })
def device (M : RingM) : (Int × Int) × Int × RingM := match M.posted with
  | [] => ((0, 0), 30, M)
  | h :: r => (h, 0, { M with posted := r, done := M.done ++ [h] })
def reap (M : RingM) : (Int × Int) × Int × RingM := match M.done with
  | [] => ((0, 0), 30, M)
  | h :: r => (h, 0, { M with done := r, reaped := M.reaped + 1 })
def make (n : Nat) : RingM := ⟨n, [], [], 0⟩
end RingM

theorem mod_inj {N r i j : Nat} (hi : i < N) (hj : j < N) (h : (r + i) % N = (r + j) % N) : i = j := by
  have key : ∀ {a b : Nat}, a ≤ b → b < N → (r + b) % N = (r + a) % N → a = b := fun {a b} hab hb h => by
    have h1 := Nat.sub_mod_eq_zero_of_mod_eq h
    rw [Nat.mod_eq_of_lt (by omega)] at h1
    omega
  rcases Nat.le_total i j with h1 | h1
  · exact key h1 hj h.symm
  · exact (key h1 hi h).symm

theorem set_ne {c : Array Value} {i j : Nat} {v : Value} (h : i ≠ j) : (c.setIfInBounds i v)[j]? = c[j]? := Array.getElem?_setIfInBounds_ne h
theorem set_eq {c : Array Value} {i j : Nat} {v : Value} (h : i = j) (hj : i < c.size) : (c.setIfInBounds i v)[j]? = some v := by
  subst h; exact Array.getElem?_setIfInBounds_self_of_lt hj

structure RingAt (H : Heap) (b : Nat) (M : RingM) (c : Array Value) : Prop where
  blk : Blk H b T_ring_Ring c
  size : c.size = 199
  pos : 1 ≤ M.N
  le : M.N ≤ 64
  fits : M.done.length + M.posted.length ≤ M.N
  n : c[192]? = some (.int .i64 M.N)
  post : c[193]? = some (.int .i64 ((M.reaped + (M.done.length + M.posted.length)) % M.N : Nat))
  work : c[194]? = some (.int .i64 ((M.reaped + M.done.length) % M.N : Nat))
  reap : c[195]? = some (.int .i64 ((M.reaped + 0) % M.N : Nat))
  c0 : c[196]? = some (.int .i64 (M.N - (M.done.length + M.posted.length) : Nat))
  c1 : c[197]? = some (.int .i64 (M.posted.length : Nat))
  c2 : c[198]? = some (.int .i64 (M.done.length : Nat))
  slot : ∀ j, j < M.N → c[((M.reaped + j) % M.N) * 3]? = some (.int .i64 (M.st j))
  hand : ∀ (j : Nat) (h : j < M.win.length), c[((M.reaped + j) % M.N) * 3 + 1]? = some (.int .i64 (M.win[j]).1) ∧ c[((M.reaped + j) % M.N) * 3 + 2]? = some (.int .i64 (M.win[j]).2)
  ints : ∀ p, p < M.N → ∃ u w : Int, c[p * 3 + 1]? = some (.int .i64 u) ∧ c[p * 3 + 2]? = some (.int .i64 w)

theorem RingAt.keep {S : Nat → Prop} {H H' : Heap} {b : Nat} {M : RingM} {c : Array Value} (h : RingAt H b M c) (k : Keep S H H') (hs : ¬ S b) : RingAt H' b M c := { h with blk := k.blk h.blk hs }
theorem RingAt.pos_lt {H : Heap} {b : Nat} {M : RingM} {c : Array Value} (h : RingAt H b M c) (x : Nat) : x % M.N < 64 := by
  have := Nat.mod_lt x (y := M.N) h.pos
  have := h.le
  omega

def turnC (c : Array Value) (at_ p f t : Nat) (kf kt : Int) (q : Nat) : Array Value :=
  (((c.setIfInBounds (0 + p * 3) (.int .i64 t)).setIfInBounds (196 + f * 1) (.int .i64 (kf - 1))).setIfInBounds (196 + t * 1) (.int .i64 (kt + 1))).setIfInBounds at_ (.int .i64 q)

theorem turnC_size (c : Array Value) (at_ p f t : Nat) (kf kt : Int) (q : Nat) : (turnC c at_ p f t kf kt q).size = c.size := by simp [turnC]
theorem turnC_slot {c : Array Value} (hs : c.size = 199) {at_ p f t : Nat} {kf kt : Int} {q : Nat} (ha : 193 ≤ at_) (i : Nat) (hi : i < 64) :
    (turnC c at_ p f t kf kt q)[i * 3]? = if i = p then some (.int .i64 t) else c[i * 3]? := by
  unfold turnC
  rw [set_ne (by omega), set_ne (by omega), set_ne (by omega)]
  by_cases e : i = p
  · rw [if_pos e, set_eq (by omega) (by omega)]
  · rw [if_neg e, set_ne (by omega)]
theorem turnC_hand {c : Array Value} {at_ p f t : Nat} {kf kt : Int} {q : Nat} (ha : 193 ≤ at_) (i : Nat) (hi : i < 64) :
    (turnC c at_ p f t kf kt q)[i * 3 + 1]? = c[i * 3 + 1]? ∧ (turnC c at_ p f t kf kt q)[i * 3 + 2]? = c[i * 3 + 2]? := by
  unfold turnC
  constructor
  · rw [set_ne (by omega), set_ne (by omega), set_ne (by omega), set_ne (by omega)]
  · rw [set_ne (by omega), set_ne (by omega), set_ne (by omega), set_ne (by omega)]

theorem ring_turn_spec {H : Heap} {b : Nat} {c : Array Value} {at_ p f t N : Nat} {s kf kt : Int} (hb : Blk H b T_ring_Ring c) (hs : c.size = 199) (ha : 193 ≤ at_) (ha2 : at_ ≤ 195) (hp : c[at_]? = some (.int .i64 p)) (hp64 : p < 64)
    (hst : c[p * 3]? = some (.int .i64 s)) (hf : f < 3) (ht : t < 3) (hft : f ≠ t) (hkf : c[196 + f]? = some (.int .i64 kf)) (hkt : c[196 + t]? = some (.int .i64 kt)) (b1 : -1000 ≤ kf) (b2 : kf ≤ 1000) (b3 : -1000 ≤ kt) (b4 : kt ≤ 1000)
    (hN : c[192]? = some (.int .i64 N)) (hN0 : 0 < N) :
    FnW Try.prog f_ring_Ring_turn ⟨[.pointer (some ⟨b, 0, none⟩), .pointer (some ⟨b, at_, none⟩), .int .i64 f, .int .i64 t]⟩ H fun v H' =>
      (s ≠ f ∧ v = .tuple ⟨[.pointer none, .bool false]⟩ ∧ H = H') ∨
      (s = f ∧ v = .tuple ⟨[.pointer (some ⟨b, 0 + p * 3, none⟩), .bool true]⟩ ∧ Keep (fun x => x = b) H H' ∧ Blk H' b T_ring_Ring (turnC c at_ p f t kf kt ((p + 1) % N))) := by
  refine ring_Ring_turn_sh b b at_ f t ?_
  unfold ring_Ring_turn_p
  refine ⟨p, by rw [hb.cell]; exact hp, InB.intro p rfl hp64 ⟨s, by rw [hb.cell, Nat.zero_add]; exact hst, ?_⟩⟩
  by_cases e : s = f
  · subst e
    rw [show (((f : Int)) != (f : Int)) = false by simp, IfB_false]
    refine StCell.blk hb (by omega) rfl (InB.intro f rfl hf ⟨kf, ?_, InB.intro f rfl hf ?_⟩)
    · rw [Blk.upd_eq.cell, set_ne (by omega), Nat.mul_one]; exact hkf
    · rw [wrap_id (by omega) (by omega)]
      refine StCell.blk Blk.upd_eq (by simp; omega) rfl (InB.intro t rfl ht ⟨kt, ?_, InB.intro t rfl ht ?_⟩)
      · rw [Blk.upd_eq.cell, set_ne (by omega), set_ne (by omega), Nat.mul_one]; exact hkt
      · rw [wrap_id (by omega) (by omega)]
        refine StCell.blk Blk.upd_eq (by simp; omega) rfl ⟨p, ?_, N, ?_, by omega, ?_⟩
        · rw [Blk.upd_eq.cell, set_ne (by omega), set_ne (by omega), set_ne (by omega)]; exact hp
        · rw [Blk.upd_eq.cell, set_ne (by omega), set_ne (by omega), set_ne (by omega)]; exact hN
        · have hm : Int.tmod (IntKind.wrap .i64 ((p : Int) + 1)) N = (((p + 1) % N : Nat) : Int) := by
            rw [wrap_id (by omega) (by omega), Int.tmod_eq_emod_of_nonneg (by omega)]
            simp
          rw [hm]
          refine StCell.blk Blk.upd_eq (by simp; omega) rfl (.inr ⟨rfl, rfl, ?_, Blk.upd_eq⟩)
          exact ((((Keep.refl (fun x => x = b) H).upd (.inl rfl)).upd (.inl rfl)).upd (.inl rfl)).upd (.inl rfl)
  · rw [show (s != (f : Int)) = true by simpa using e, IfB_true]
    exact .inl ⟨e, rfl, rfl⟩

theorem ring_is_spec {H : Heap} {b : Nat} {M : RingM} {c : Array Value} (h : RingAt H b M c) : FnW Try.prog f_ring_Ring_is ⟨[.pointer (some ⟨b, 0, none⟩)]⟩ H fun v H' => v = .bool true ∧ H = H' := by
  refine ring_Ring_is_sh b ⟨M.N, by rw [h.blk.cell]; exact h.n, ?_⟩
  have := h.pos
  rw [decide_eq_true (by omega)]
  exact ⟨rfl, rfl⟩

theorem ring_zero_len : zl_T_ring_Ring.length = 199 := by kernel_rfl
theorem ring_zero : ∀ i, i < 199 → zl_T_ring_Ring[i]? = some (.int .i64 0) := by
  have h : zl_T_ring_Ring = List.replicate 199 (.int .i64 0) := by kernel_rfl
  intro i hi
  rw [h, List.getElem?_replicate, if_pos hi]

theorem ring_Make_no {H : Heap} {n : Int} (h : n < 1 ∨ 64 < n) : FnW Try.prog f_ring_Make ⟨[.int .i64 n]⟩ H fun v H' => v = .tuple ⟨[.pointer none, .int .i64 2]⟩ ∧ H = H' := by
  refine ring_Make_sh n ?_
  unfold ring_Make_p
  by_cases h1 : n < 1
  · rw [decide_eq_true h1]
    exact ⟨rfl, rfl⟩
  · rw [decide_eq_false h1]
    have h2 : n > 64 := by omega
    rw [decide_eq_true h2]
    exact ⟨rfl, rfl⟩

theorem ring_Make_spec {H : Heap} {n : Nat} (h1 : 1 ≤ n) (h2 : n ≤ 64) : FnW Try.prog f_ring_Make ⟨[.int .i64 n]⟩ H fun v H' => Keep Nil H H' ∧ ∃ b c, H b = none ∧ v = .tuple ⟨[.pointer (some ⟨b, 0, none⟩), .int .i64 0]⟩ ∧ RingAt H' b (RingM.make n) c := by
  refine ring_Make_sh n ?_
  unfold ring_Make_p
  rw [decide_eq_false (by omega), decide_eq_false (by omega), IfB_false]
  unfold ring_Make_j0
  rw [IfB_false]
  have hl := ring_zero_len
  have hz := ring_zero
  generalize zl_T_ring_Ring = z at *
  refine NewW.intro fun b hb => InB.intro 0 rfl (by omega) ?_
  rw [setL_one]
  refine StCell.blk Blk.upd_eq (by simp [hl]) rfl ?_
  refine ⟨((Keep.refl Nil H).new hb).upd (.inr hb), b, (⟨z.set 192 (.int .i64 n)⟩ : Array Value).setIfInBounds (196 + 0 * 1) (.int .i64 n), hb, rfl, ?_⟩
  have g : ∀ i, i < 199 → ((⟨z.set 192 (.int .i64 n)⟩ : Array Value).setIfInBounds (196 + 0 * 1) (.int .i64 n))[i]? = if i = 196 then some (.int .i64 n) else if i = 192 then some (.int .i64 n) else some (.int .i64 0) := by
    intro i hi
    by_cases e : i = 196
    · rw [if_pos e, set_eq (by omega) (by simp [hl])]
    · rw [if_neg e, set_ne (by omega)]
      simp only [List.getElem?_toArray]
      by_cases e2 : i = 192
      · subst e2; rw [if_pos rfl, List.getElem?_set_self (by omega)]
      · rw [if_neg e2, List.getElem?_set_ne (by omega), hz i hi]
  have hmod : ∀ x, x % n < 64 := fun x => by have := Nat.mod_lt x (y := n) h1; omega
  exact
    { blk := Blk.upd_eq
      size := by simp [hl]
      pos := h1
      le := h2
      fits := by simp [RingM.make]
      n := by rw [g 192 (by omega)]; rfl
      post := by rw [g 193 (by omega)]; simp [RingM.make]
      work := by rw [g 194 (by omega)]; simp [RingM.make]
      reap := by rw [g 195 (by omega)]; simp [RingM.make]
      c0 := by rw [g 196 (by omega)]; simp [RingM.make]
      c1 := by rw [g 197 (by omega)]; simp [RingM.make]
      c2 := by rw [g 198 (by omega)]; simp [RingM.make]
      slot := fun j _ => by
        have := hmod (0 + j)
        simp only [RingM.make] at *
        rw [g _ (by omega), if_neg (by omega), if_neg (by omega)]
        simp [RingM.st]
      hand := fun j hj => by simp [RingM.win, RingM.make] at hj
      ints := fun p hp => by
        simp only [RingM.make] at hp
        exact ⟨0, 0, by rw [g _ (by omega), if_neg (by omega), if_neg (by omega)], by rw [g _ (by omega), if_neg (by omega), if_neg (by omega)]⟩ }

end Go.Proofs.Ytligjponbhnedaa
