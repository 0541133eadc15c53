/-
  Sums (layer 1): what the program's functions and the document's find.
-/
import Derived.Test.YtolmljommmhpkaaDoorQ
import Derived.Test.YtolmljommmhpkaaDoorHm2
set_option linter.unusedSectionVars false
set_option linter.unusedSimpArgs false
set_option linter.unusedVariables false
namespace Go.Proofs.YtolmljommmhpkaaDoor
open Go.Sh

/-- A number, what is above 16 bits added again until there is none. -/
def rnd (n : Nat) : Nat := if n ≤ 65535 then n else if n % 65536 + n / 65536 ≤ 65535 then n % 65536 + n / 65536 else (n % 65536 + n / 65536) % 65536 + (n % 65536 + n / 65536) / 65536
theorem rnd_le (n : Nat) (h : n < 4294967296) : rnd n ≤ 65535 := by unfold rnd; split <;> (try split) <;> omega
theorem rnd_id {n : Nat} (h : n ≤ 65535) : rnd n = n := by unfold rnd; rw [if_pos h]
theorem rnd_step (n : Nat) (_ : n < 4294967296) : rnd (n % 65536 + n / 65536) = rnd n := by
  unfold rnd; repeat' split
  all_goals omega
theorem rnd_mod (n : Nat) (h : n < 4294967296) : rnd n % 65535 = n % 65535 := by unfold rnd; split <;> (try split) <;> omega
theorem rnd_zero (n : Nat) (h : n < 4294967296) : rnd n = 0 ↔ n = 0 := by unfold rnd; split <;> (try split) <;> omega

theorem sum_round_c (n : Nat) (K : Int → Prop) (h : n < 4294967296) (hk : K (rnd n)) : sum_round_q n K := by
  unfold sum_round_q
  have hb : ∀ m : Nat, m < 4294967296 → ∀ next : (Int × Unit) → Prop, (65535 < m → next ((((m % 65536 + m / 65536 : Nat) : Int)), ())) → (m ≤ 65535 → K m) → sum_round_l2000000 m next K := by
    intro m hm next h1 h2
    dsimp only [sum_round_l2000000]
    refine IfB.intro (fun hd => ⟨by omega, of_eq (h1 (by simp at hd; omega)) ?_⟩) (fun hd => h2 (by simp at hd; omega))
    have e : bitsAnd .u32 (m : Int) 65535 = ((m % 65536 : Nat) : Int) := by
      rw [show (65535 : Int) = ((65535 : Nat) : Int) from rfl, and_nat .u32 m 65535 hm (by decide), and_65535, wu32 (by omega)]
    rw [e, fdiv_2, ← Int.natCast_add, wu32 (by omega)]
  refine LoopJ.up 2 (fun i => (match i with | 0 => ((n : Int), ()) | 1 => (((n % 65536 + n / 65536 : Nat) : Int), ()) | _ => (((rnd n : Nat) : Int), ()))) (fun i => i = 0 ∨ (i = 1 ∧ 65535 < n) ∨ i = 2) rfl (Or.inl rfl) ?_ ?_
  · intro i hi hp next hn
    intro _
    match i, hi with
    | 0, _ =>
      refine hb n h next (fun h1 => hn (Or.inr (Or.inl ⟨rfl, h1⟩))) (fun h1 => ?_)
      rw [rnd_id h1] at hk; exact hk
    | 1, _ =>
      have h1 : 65535 < n := by rcases hp with hp | hp | hp <;> omega
      refine hb (n % 65536 + n / 65536) (by omega) next (fun h2 => of_eq (hn (Or.inr (Or.inr rfl))) ?_) (fun h2 => ?_)
      · show (((rnd n : Nat) : Int), ()) = _
        rw [rnd, if_neg (by omega), if_neg (by omega)]
      · rw [rnd, if_neg (by omega), if_pos h2] at hk; exact hk
  · intro _ next
    intro _
    have := rnd_le n h
    exact hb (rnd n) (by omega) next (fun h1 => by omega) (fun _ => hk)

theorem ref01_round_c (n : Nat) (K : Int → Prop) (h : n < 4294967296) (hk : K (rnd n)) : ref01_round_q n K := by
  unfold ref01_round_q
  refine LoopJ.up 3 (fun i => (((match i with | 0 => n | 1 => n % 65536 + n / 65536 | _ => rnd n : Nat) : Int), (i : Int), ())) (fun _ => True) rfl trivial (fun i hi _ next hn => ?_) (fun _ next => ?_)
  · intro _
    dsimp only [ref01_round_l2]
    refine ifT (decide_eq_true (by omega)) ⟨by decide, by decide, of_eq (hn trivial) ?_⟩
    have hm : ∀ m : Nat, m < 4294967296 → IntKind.wrap .u32 (Int.tmod (m : Int) 65536 + IntKind.wrap .u32 (Int.tdiv (m : Int) 65536)) = ((m % 65536 + m / 65536 : Nat) : Int) := by
      intro m hm
      rw [tmod_2, tdiv_2, wu32 (by omega), ← Int.natCast_add, wu32 (by omega)]
    have := rnd_le n h
    have hw : IntKind.wrap .i64 ((i : Int) + 1) = ((i + 1 : Nat) : Int) := by rw [wr_i64 (by omega) (by omega)]; omega
    rw [hw]
    have hi3 : i = 0 ∨ i = 1 ∨ i = 2 := by omega
    rcases hi3 with rfl | rfl | rfl
    · show (((n % 65536 + n / 65536 : Nat) : Int), _) = (IntKind.wrap .u32 (Int.tmod (n : Int) 65536 + IntKind.wrap .u32 (Int.tdiv (n : Int) 65536)), _)
      rw [hm n h]
    · show (((rnd n : Nat) : Int), _) = (IntKind.wrap .u32 (Int.tmod ((n % 65536 + n / 65536 : Nat) : Int) 65536 + IntKind.wrap .u32 (Int.tdiv ((n % 65536 + n / 65536 : Nat) : Int) 65536)), _)
      rw [hm _ (by omega)]
      have : rnd n = (n % 65536 + n / 65536) % 65536 + (n % 65536 + n / 65536) / 65536 := by
        unfold rnd; repeat' split
        all_goals omega
      rw [this]
    · show (((rnd n : Nat) : Int), _) = (IntKind.wrap .u32 (Int.tmod ((rnd n : Nat) : Int) 65536 + IntKind.wrap .u32 (Int.tdiv ((rnd n : Nat) : Int) 65536)), _)
      rw [hm _ (by omega)]
      have : rnd n % 65536 + rnd n / 65536 = rnd n := by omega
      rw [this]
  · intro _
    dsimp only [ref01_round_l2]
    exact ifF (by decide) hk

/-- Bytes added to a partial sum. -/
def adds : Nat → List UInt8 → Nat
  | n, [] => n
  | n, [x] => rnd (n + 256 * x.toNat)
  | n, x :: y :: r => adds (rnd (n + 256 * x.toNat + y.toNat)) r
theorem adds_app (k : Nat) : ∀ (n : Nat) (xs ys : List UInt8), xs.length = 2 * k → adds n (xs ++ ys) = adds (adds n xs) ys := by
  induction k with
  | zero =>
    intro n xs ys h
    have : xs = [] := List.eq_nil_of_length_eq_zero (by omega)
    subst this; rfl
  | succ k ih =>
    intro n xs ys h
    match xs, h with
    | [], h => simp at h
    | [x], h => simp at h; omega
    | x :: y :: r, h =>
      show adds _ (r ++ ys) = _
      rw [ih _ r ys (by simp at h; omega)]; rfl
theorem adds_le : ∀ (k n : Nat) (xs : List UInt8), xs.length ≤ k → n ≤ 65535 → adds n xs ≤ 65535 := by
  intro k
  induction k with
  | zero =>
    intro n xs h hn
    have : xs = [] := List.eq_nil_of_length_eq_zero (by omega)
    subst this; exact hn
  | succ k ih =>
    intro n xs h hn
    match xs, h with
    | [], _ => exact hn
    | [x], _ =>
      have := u8_lt x
      exact rnd_le _ (by omega)
    | x :: y :: r, h =>
      have := u8_lt x; have := u8_lt y
      exact ih _ r (by simp at h; omega) (rnd_le _ (by omega))
theorem adds_le' {n : Nat} {xs : List UInt8} (hn : n ≤ 65535) : adds n xs ≤ 65535 := adds_le xs.length n xs (Nat.le_refl _) hn
theorem adds_two {b : List UInt8} {n i : Nat} (h : 2 * i + 1 < b.length) : adds n (b.take (2 * (i + 1))) = rnd (adds n (b.take (2 * i)) + 256 * b[2 * i].toNat + b[2 * i + 1].toNat) := by
  have : b.take (2 * (i + 1)) = b.take (2 * i) ++ [b[2 * i], b[2 * i + 1]] := by
    rw [show 2 * (i + 1) = 2 * i + 1 + 1 by omega, List.take_add_one (i := 2 * i + 1), List.take_add_one (i := 2 * i), List.getElem?_eq_getElem h, List.getElem?_eq_getElem (by omega : 2 * i < b.length), List.append_assoc]
    rfl
  rw [this, adds_app i _ _ _ (by simp; omega)]
  rfl
theorem adds_one {b : List UInt8} {n i : Nat} (h : 2 * i + 1 = b.length) : adds n b = rnd (adds n (b.take (2 * i)) + 256 * b[2 * i].toNat) := by
  have : b = b.take (2 * i) ++ [b[2 * i]] := by
    have := List.take_add_one (l := b) (i := 2 * i)
    rw [h, List.take_length, List.getElem?_eq_getElem (by omega)] at this
    simpa using this
  conv => lhs; rw [this]
  rw [adds_app i _ _ _ (by simp; omega)]
  rfl

theorem sum_Add_c (n : Nat) (b : List UInt8) (K : Int → Prop) (h : n < 4294967296) (hb : b.length ≤ 9223372036854775807) (hk : K (adds (rnd n) b)) : sum_Add_q n b K := by
  unfold sum_Add_q
  intro _
  refine sum_round_c n _ h fun _ => ⟨by decide, ?_⟩
  have hr := rnd_le n h
  have ht : IntKind.wrap .i64 (Int.tdiv (b.length : Int) 2) = ((b.length / 2 : Nat) : Int) := by
    rw [show Int.tdiv (b.length : Int) 2 = ((b.length / 2 : Nat) : Int) from rfl, wr_i64 (by omega) (by omega)]
  refine LoopJ.up (b.length / 2) (fun i => ((adds (rnd n) (b.take (2 * i)) : Int), (i : Int), ())) (fun _ => True) (by simp [adds]) trivial (fun i hi _ next hn => ?_) (fun _ next => ?_)
  · intro _
    dsimp only [sum_Add_l3]
    rw [ht]
    have hw1 : IntKind.wrap .i64 (2 * (i : Int)) = ((2 * i : Nat) : Int) := by rw [wr_i64 (by omega) (by omega)]; omega
    have hw2 : IntKind.wrap .i64 (((2 * i : Nat) : Int) + 1) = ((2 * i + 1 : Nat) : Int) := by rw [wr_i64 (by omega) (by omega)]; omega
    rw [hw1, hw2]
    refine ifT (decide_eq_true (by omega)) ⟨by omega, AtN.of (by rw [Int.toNat_natCast]; exact List.getElem?_eq_getElem (by omega)) fun _ => ⟨by omega, by omega, AtN.of (by rw [Int.toNat_natCast]; exact List.getElem?_eq_getElem (by omega)) fun _ => ?_⟩⟩
    have ha := adds_le' (xs := b.take (2 * i)) hr
    have h1 := u8_lt b[2 * i]; have h2 := u8_lt b[2 * i + 1]
    have e : IntKind.wrap .u32 (IntKind.wrap .u32 ((adds (rnd n) (b.take (2 * i)) : Int) + IntKind.wrap .u32 (IntKind.wrap .u32 (b[2 * i].toNat : Int) * 256)) + IntKind.wrap .u32 (b[2 * i + 1].toNat : Int)) = ((adds (rnd n) (b.take (2 * i)) + 256 * b[2 * i].toNat + b[2 * i + 1].toNat : Nat) : Int) := by
      simp only [wr_u32]; omega
    rw [e]
    intro _
    refine sum_round_c _ _ (by omega) fun _ => of_eq (hn trivial) ?_
    rw [adds_two (by omega), wr_i64 (by omega) (by omega)]
    simp
  · intro _
    dsimp only [sum_Add_l3]
    rw [ht]
    refine ifF (decide_eq_false (by omega)) ⟨by decide, ?_⟩
    rw [show Int.tmod (b.length : Int) 2 = ((b.length % 2 : Nat) : Int) from rfl]
    refine IfB.intro (fun hd => ?_) (fun hd => of_eq hk ?_)
    · have hd : b.length % 2 = 1 := by simp at hd; omega
      have hw1 : IntKind.wrap .i64 ((b.length : Int) - 1) = ((2 * (b.length / 2) : Nat) : Int) := by rw [wr_i64 (by omega) (by omega)]; omega
      rw [hw1]
      refine ⟨by omega, AtN.of (by rw [Int.toNat_natCast]; exact List.getElem?_eq_getElem (by omega)) fun _ => ⟨by omega, ?_⟩⟩
      have ha := adds_le' (xs := b.take (2 * (b.length / 2))) hr
      have h1 := u8_lt (b[2 * (b.length / 2)]'(by omega))
      have e : IntKind.wrap .u32 ((adds (rnd n) (b.take (2 * (b.length / 2))) : Int) + IntKind.wrap .u32 (IntKind.wrap .u32 ((b[2 * (b.length / 2)]'(by omega)).toNat : Int) * 256)) = ((adds (rnd n) (b.take (2 * (b.length / 2))) + 256 * (b[2 * (b.length / 2)]'(by omega)).toNat : Nat) : Int) := by
        simp only [wr_u32]; omega
      rw [e]
      intro _
      refine sum_round_c _ _ (by omega) fun _ => of_eq hk ?_
      rw [adds_one (i := b.length / 2) (by omega)]
    · have hd : ¬ b.length % 2 = 1 := by simp at hd; omega
      rw [List.take_of_length_le (by omega)]

theorem ref01_Add_c (n : Nat) (b : List UInt8) (K : Int → Prop) (h : n < 4294967296) (hb : b.length < 9223372036854775807) (hk : K (adds (rnd n) b)) : ref01_Add_q n b K := by
  unfold ref01_Add_q
  intro _
  refine ref01_round_c n _ h fun _ => ?_
  have hr := rnd_le n h
  refine LoopJ.up ((b.length + 1) / 2) (fun i => ((adds (rnd n) (b.take (2 * i)) : Int), ((2 * i : Nat) : Int), ())) (fun _ => True) (by simp [adds]) trivial (fun i hi _ next hn => ?_) (fun _ next => ?_)
  · intro _
    dsimp only [ref01_Add_l3]
    have ha := adds_le' (xs := b.take (2 * i)) hr
    have h1 := u8_lt (b[2 * i]'(by omega))
    have hw2 : IntKind.wrap .i64 (((2 * i : Nat) : Int) + 1) = ((2 * i + 1 : Nat) : Int) := by rw [wr_i64 (by omega) (by omega)]; omega
    have hw3 : IntKind.wrap .i64 (((2 * i : Nat) : Int) + 2) = ((2 * (i + 1) : Nat) : Int) := by rw [wr_i64 (by omega) (by omega)]; omega
    refine ifT (decide_eq_true (by omega)) ⟨by omega, AtN.of (x := b[2 * i]'(by omega)) (by rw [Int.toNat_natCast]; exact List.getElem?_eq_getElem (by omega)) fun _ => ?_⟩
    rw [hw2]
    refine IfB.intro (fun hd => ⟨by omega, AtN.of (x := b[2 * i + 1]'(by simp at hd; omega)) (by rw [Int.toNat_natCast]; exact List.getElem?_eq_getElem (by simp at hd; omega)) fun _ => ?_⟩) (fun hd => ?_)
    · have hd : 2 * i + 1 < b.length := by simp at hd; omega
      have h2 := u8_lt b[2 * i + 1]
      dsimp only [ref01_Add_j0]
      have e : IntKind.wrap .u32 ((adds (rnd n) (b.take (2 * i)) : Int) + IntKind.wrap .u32 (IntKind.wrap .u32 (256 * IntKind.wrap .u32 (b[2 * i].toNat : Int)) + IntKind.wrap .u32 (b[2 * i + 1].toNat : Int))) = ((adds (rnd n) (b.take (2 * i)) + 256 * b[2 * i].toNat + b[2 * i + 1].toNat : Nat) : Int) := by
        simp only [wr_u32]; omega
      rw [e]
      intro _
      refine ref01_round_c _ _ (by omega) fun _ => of_eq (hn trivial) ?_
      rw [adds_two hd, hw3]
    · have hd : 2 * i + 1 = b.length := by simp at hd; omega
      dsimp only [ref01_Add_j0]
      have e : IntKind.wrap .u32 ((adds (rnd n) (b.take (2 * i)) : Int) + IntKind.wrap .u32 (256 * IntKind.wrap .u32 ((b[2 * i]'(by omega)).toNat : Int))) = ((adds (rnd n) (b.take (2 * i)) + 256 * (b[2 * i]'(by omega)).toNat : Nat) : Int) := by
        simp only [wr_u32]; omega
      rw [e]
      intro _
      refine ref01_round_c _ _ (by omega) fun _ => of_eq (hn trivial) ?_
      rw [List.take_of_length_le (i := 2 * (i + 1)) (by omega), adds_one hd, hw3]
  · intro _
    dsimp only [ref01_Add_l3]
    refine ifF (decide_eq_false (by omega)) ?_
    rw [List.take_of_length_le (by omega)]
    exact hk

theorem sum_Fold_c (n : Nat) (K : Int → Prop) (h : n < 4294967296) (hk : K ((65535 - rnd n : Nat) : Int)) : sum_Fold_q n K := by
  unfold sum_Fold_q
  intro _
  have hr := rnd_le n h
  refine sum_round_c n _ h fun _ => of_eq hk ?_
  rw [wr_u16, show (if IntKind.signed .u16 = true then (-1) else IntKind.max .u16) = ((65535 : Nat) : Int) from rfl, show ((rnd n : Nat) : Int) % 65536 = ((rnd n : Nat) : Int) by omega, xor_nat .u16 65535 (rnd n) (by decide) (by show rnd n < 65536; omega), xor_65535 _ (by omega), wr_u16]
  omega
theorem ref01_Fold_c (n : Nat) (K : Int → Prop) (h : n < 4294967296) (hk : K ((65535 - rnd n : Nat) : Int)) : ref01_Fold_q n K := by
  unfold ref01_Fold_q
  intro _
  have hr := rnd_le n h
  refine ref01_round_c n _ h fun _ => of_eq hk ?_
  rw [wr_u16, wr_u32]
  omega

/-- Bytes' sum, and its turn. -/
def tot (b : List UInt8) : Nat := adds 0 b
theorem tot_le (b : List UInt8) : tot b ≤ 65535 := adds_le' (by omega)
theorem sum_Of_c (b : List UInt8) (K : Int → Prop) (hb : b.length < 9223372036854775807) (hk : K ((65535 - tot b : Nat) : Int)) : sum_Of_q b K := by
  unfold sum_Of_q
  intro _
  have := tot_le b
  refine sum_Add_c 0 b _ (by decide) (by omega) fun _ _ => sum_Fold_c (tot b) _ (by omega) fun _ => ?_
  rw [rnd_id this]; exact hk
theorem ref01_Of_c (b : List UInt8) (K : Int → Prop) (hb : b.length < 9223372036854775807) (hk : K ((65535 - tot b : Nat) : Int)) : ref01_Of_q b K := by
  unfold ref01_Of_q
  intro _
  have := tot_le b
  refine ref01_Add_c 0 b _ (by decide) (by omega) fun _ _ => ref01_Fold_c (tot b) _ (by omega) fun _ => ?_
  rw [rnd_id this]; exact hk
theorem sum_Right_c (b : List UInt8) (K : Bool → Prop) (hb : b.length < 9223372036854775807) (hk : K (tot b == 65535)) : sum_Right_q b K := by
  unfold sum_Right_q
  intro _
  refine sum_Add_c 0 b _ (by decide) (by omega) fun _ => of_eq hk ?_
  rw [Bool.eq_iff_iff]; simp [tot, rnd_id]; omega
theorem ref01_Right_c (b : List UInt8) (K : Bool → Prop) (hb : b.length < 9223372036854775807) (hk : K (tot b == 65535)) : ref01_Right_q b K := by
  unfold ref01_Right_q
  intro _
  refine ref01_Add_c 0 b _ (by decide) (by omega) fun _ => of_eq hk ?_
  rw [Bool.eq_iff_iff]; simp [tot, rnd_id]; omega

end Go.Proofs.YtolmljommmhpkaaDoor
