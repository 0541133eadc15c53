/-
  Prefixes that are right: what the program finds, and the document.
  Updates' bytes (layer 21) and messages (layer 17): what the program builds, and the document.
  Updates' bodies and messages: what the program builds, and the document.
  Addresses' texts: what is read as one.
  Numbers' texts, prefixes' texts.
  Addresses' and prefixes' texts, as they are told.
  Prefixes within prefixes, in numbers.
  Prefixes: their texts, and which lie within which: what the program finds, and the document.
  Updates' parts and prefixes: what the program reads; the example of chapter 21.
  Reading updates: what the program finds, as a whole.
  The law UpdSafe: what is read has right prefixes alone, and may be built, if it fits. Conditions: none beyond those of the given statement.
-/
import Derived.Test.YtboagabgpcghcaaDoorQL
import Derived.Test.YtboagabgpcghcaaDoorHm2
import Derived.Test.YtboagabgpcghcaaDoorTx1
import Derived.Test.YtboagabgpcghcaaDoorHm1
set_option linter.all false
namespace Go.Proofs.YtboagabgpcghcaaDoor
open Go.Sh
theorem mask_c (a n : Nat) (K : Int -> Prop) (ha : a < 4294967296) (hn : n <= 32) (hk : K ((a - a % hostBits n : Nat) : Int)) : zz18_q a n K := by
  unfold zz18_q; have e1 : IntKind.wrap .i64 (32 - (n : Int)) = ((32 - n : Nat) : Int) := by rw [wr_i64 (by omega) (by omega)]; omega
  rw [e1]; refine ⟨by omega, ?_⟩
  have hp : 2 ^ (32 - n) <= 2 ^ 32 := Nat.pow_le_pow_right (by decide) (by omega)
  have h0 : 0 < 2 ^ (32 - n) := Nat.two_pow_pos _; have e32 : (2 : Nat) ^ 32 = 4294967296 := rfl; have e2 : (min ((32 - n : Nat) : Int).toNat (IntKind.bits .u64)) = 32 - n := by rw [Int.toNat_natCast]; have : IntKind.bits .u64 = 64 := rfl; rw [this]; omega
  have e3 : (1 * (2 ^ (32 - n)) : Int) = ((2 ^ (32 - n) : Nat) : Int) := by rw [Int.one_mul]; norm_cast
  rw [e2, e3, wu64n _ (by omega), show (((2 ^ (32 - n) : Nat) : Int) - 1) = ((2 ^ (32 - n) - 1 : Nat) : Int) by omega, wu64n _ (by omega), wu32 (by omega), andNot_low a ha _ (by omega)]
  exact hk
def right (a : Nat) (n : Int) : Bool := decide (0 <= n) && (decide (n <= 32) && (a % hostBits n.toNat == 0))
theorem right_iff {a : Nat} {n : Int} : right a n = true ↔ 0 <= n ∧ n <= 32 ∧ a % hostBits n.toNat = 0 := by simp [right]
theorem right_c (a : UInt32) (n : Int) (K : Bool -> Prop) (hk : K (right a.toNat n)) : zz21_q (a, n) K := by
  unfold zz21_q; have ha := u32_lt a; refine IfB.intro (fun h => IfB.intro (fun h2 => ?_) (fun h2 => of_eq hk ?_)) (fun h => of_eq hk ?_)
  . have h0 : 0 <= n := by simpa using h
    have h1 : n <= 32 := by simpa using h2
    obtain ⟨m, rfl⟩ := Int.eq_ofNat_of_zero_le h0; intro _; refine mask_c a.toNat m _ ha (by omega) fun _ => of_eq hk ?_
    have hle : a.toNat % hostBits m <= a.toNat := Nat.mod_le _ _; unfold right; rw [decide_eq_true h0, decide_eq_true h1, Bool.true_and, Bool.true_and, Int.toNat_natCast]; by_cases e : a.toNat % hostBits m = 0; rw [e]; simp
    . have e1 : (a.toNat % hostBits m == 0) = false := beq_eq_false_iff_ne.2 e; have e2 : (((a.toNat - a.toNat % hostBits m : Nat) : Int) == (a.toNat : Int)) = false := beq_eq_false_iff_ne.2 (by omega)
      rw [e1, e2]
  . unfold right; simp at h2; rw [decide_eq_false (show ¬ n <= 32 by omega)]; simp
  . unfold right; simp at h; rw [decide_eq_false (show ¬ 0 <= n by omega)]; simp
end Go.Proofs.YtboagabgpcghcaaDoor
namespace Go.Proofs.YtboagabgpcghcaaDoor
open Go.Sh
abbrev Pf := UInt32 × Int
def rightP (p : Pf) : Bool := right p.1.toNat p.2
def octs (n : Int) : Nat := (n.toNat + 7) / 8
def prefB (p : Pf) : List UInt8 := ofI .u8 (IntKind.wrap .u8 p.2) :: (be4 p.1.toNat).take (octs p.2)
def putsB (l : List Pf) : List UInt8 := l.flatMap prefB
theorem rightP_len {p : Pf} (h : rightP p = true) : 0 <= p.2 ∧ p.2 <= 32 := by have := right_iff.1 h; exact ⟨this.1, this.2.1⟩
theorem octs_le {p : Pf} (h : rightP p = true) : octs p.2 <= 4 := by have := rightP_len h; unfold octs; omega
theorem prefB_le (p : Pf) : (prefB p).length <= 5 := by unfold prefB; rw [List.length_cons, List.length_take, be4_length]; omega
theorem putsB_le : ∀ l : List Pf, (putsB l).length <= 5 * l.length
  | [] => by simp [putsB]
  | p :: l => by have h1 := putsB_le l; have h2 := prefB_le p; have e : putsB (p :: l) = prefB p ++ putsB l := rfl; rw [e, List.length_append, List.length_cons]; omega
theorem putsB_snoc (l : List Pf) (p : Pf) : putsB (l ++ [p]) = putsB l ++ prefB p := by simp [putsB]
theorem octets_c (p : Pf) (K : Int -> Prop) (hp : rightP p = true) (h : K (octs p.2 : Nat)) : zz19_q p.2 K := by
  have := rightP_len hp; unfold zz19_q; refine ⟨by decide, of_eq h ?_⟩
  rw [wr_i64 (n := p.2 + 8) (by omega) (by omega), wr_i64 (n := p.2 + 8 - 1) (by omega) (by omega), Int.tdiv_eq_ediv_of_nonneg (by omega), wr_i64 (by omega) (by omega)]
  unfold octs; omega
theorem be4_step (a i : Nat) (hi : i < 4) (x : UInt8) (h : (be4 a)[i]? = some x) : (be4 a).take (i + 1) = (be4 a).take i ++ [x] := by rw [List.take_add_one, h]; rfl
theorem be4_at (a i : Nat) (hi : i < 4) : (be4 a)[i]? = some (UInt8.ofNat (a / 2 ^ (24 - 8 * i))) := by
  match i, hi with
  | 0, _ => rfl
  | 1, _ => rfl
  | 2, _ => rfl
  | 3, _ => simp [be4]
theorem fdiv_pow (a k : Nat) : Int.fdiv (a : Int) (2 ^ k) = ((a / 2 ^ k : Nat) : Int) := by
  rw [Int.fdiv_eq_ediv_of_nonneg _ (Int.le_of_lt (Int.pow_pos (by decide)))]
  norm_cast
theorem upd_put_c (l : List Pf) (K : List UInt8 -> Bool -> Prop) (hl : l.length <= 1000000000) (h : K (if l.all rightP then putsB l else []) (l.all rightP)) : upd_put_q l K := by
  unfold upd_put_q; refine LoopJ.over l (fun pre => (putsB pre, (pre.length : Int), ())) (fun pre => pre.all rightP = true) rfl rfl (fun pre p post hp hn hP next hx => ?_) (fun hP next _ => ?_)
  . intro _; dsimp only [upd_put_l3]; have hb := putsB_le pre; refine ifT (decide_eq_true (by omega)) ⟨by omega, AtN.of (at_pre hp) fun _ => ?_⟩
    rw [ofI_u32]; refine fun _ => right_c p.1 p.2 _ fun _ => IfB.intro (fun h1 => ?_) (fun h1 => ?_)
    . have h1' : rightP p = false := by simpa [rightP] using h1
      have e : l.all rightP = false := by rw [hp]; simp [h1']
      rw [e] at h; exact h
    . have h1' : rightP p = true := by simpa [rightP] using h1
      have ho := octs_le h1'; refine ⟨by simp; omega, fun _ => octets_c p _ h1' fun _ => ?_⟩
      refine LoopJ.up (octs p.2) (fun i => (putsB pre ++ ofI .u8 (IntKind.wrap .u8 p.2) :: (be4 p.1.toNat).take i, (i : Int), ())) (fun _ => True) (by simp) trivial (fun i hi _ next' hy => ?_) (fun _ next' => ?_)
      . intro _; dsimp only [upd_put_l9]; have hw : IntKind.wrap .i64 (24 - IntKind.wrap .i64 (8 * (i : Int))) = ((24 - 8 * i : Nat) : Int) := by
          rw [wr_i64 (n := 8 * (i : Int)) (by omega) (by omega), wr_i64 (by omega) (by omega)]; omega
        have hm : (min ((24 - 8 * i : Nat) : Int).toNat (IntKind.bits .u32)) = 24 - 8 * i := by have : IntKind.bits .u32 = 32 := rfl; rw [Int.toNat_natCast, this]; omega
        have ht : ((be4 p.1.toNat).take i).length <= 4 := by rw [List.length_take, be4_length]; omega
        rw [hw, hm]; refine ifT (decide_eq_true (by omega)) ⟨by omega, by simp; omega, of_eq (hy trivial) ?_⟩
        rw [fdiv_pow, of8w, wr_i64 (by omega) (by omega), be4_step _ i (by omega) _ (be4_at _ i (by omega))]
        simp
      . intro _; dsimp only [upd_put_l9]; refine ifF (decide_eq_false (by omega)) (of_eq (hx ?_) ?_)
        simp [hP, h1']
        . rw [putsB_snoc, wr_i64 (by omega) (by omega)]
          simp [prefB]
  . dsimp only [upd_put_l3]; refine ifF (decide_eq_false (by omega)) ?_
    rw [hP, if_pos rfl] at h; exact h
end Go.Proofs.YtboagabgpcghcaaDoor
namespace Go.Proofs.YtboagabgpcghcaaDoor
open Go.Sh
abbrev Upd := List Pf × List Pf × Int × List Seg × UInt32 × Bool × UInt32 × Bool × UInt32 × Bool × Bool × UInt32 × UInt32 × List UInt32 × List Raw × Int
def updAttrs (u : Upd) : Attrs := (u.2.2.1, u.2.2.2.1, u.2.2.2.2.1, u.2.2.2.2.2.1, u.2.2.2.2.2.2.1, u.2.2.2.2.2.2.2.1, u.2.2.2.2.2.2.2.2.1, u.2.2.2.2.2.2.2.2.2.1, u.2.2.2.2.2.2.2.2.2.2.1, u.2.2.2.2.2.2.2.2.2.2.2.1, u.2.2.2.2.2.2.2.2.2.2.2.2.1, u.2.2.2.2.2.2.2.2.2.2.2.2.2.1, u.2.2.2.2.2.2.2.2.2.2.2.2.2.2.1)
structure FitA (a : Attrs) : Prop where
  p1 : a.path.length <= 9223372036854775807
  p2 : cnt a.path <= 9223372036854775807
  p3 : ∀ s ∈ a.path, s.2.length <= 9223372036854775807
  o1 : a.others.length <= 9223372036854775807
def bodyF (w a t : List UInt8) : List UInt8 × Int :=
  if 4073 < w.length + a.length + t.length then ([], 3) else (be2 w.length ++ w ++ (be2 a.length ++ a ++ t), 0)
def updR (u : Upd) (four : Bool) : List UInt8 × Int :=
  if u.1.all rightP && u.2.1.all rightP then
    if 0 < u.2.1.length then (if attrsOk (updAttrs u) then bodyF (putsB u.1) (attrsB four (updAttrs u)) (putsB u.2.1) else ([], 2))
    else bodyF (putsB u.1) [] (putsB u.2.1)
  else ([], 2)
theorem path_le {four : Bool} {p : List Seg} (hok : pathOk p = true) : (encPath four p).length <= 384 := by simp only [pathOk, Bool.and_eq_true, decide_eq_true_eq] at hok; have h1 := parts_len p hok.1; have h2 := encPath_len four p; omega
theorem attrsB_le {four : Bool} {a : Attrs} (h : attrsOk a = true) : (attrsB four a).length <= 3500 := by simp only [attrsOk, Bool.and_eq_true, decide_eq_true_eq, Bool.not_eq_true'] at h; obtain ⟨⟨⟨⟨⟨⟨_, _⟩, hpok⟩, _⟩, _⟩, hcm⟩, hoth, hol⟩ := h; have hp1 := path_le (four := four) hpok; have hp2 := path_le (four := true) hpok; have ho := othersB_len a.others (-1) hoth; have hp := perhB_len four a; have a1 := attB_len 64 1 [ofI .u8 (IntKind.wrap .u8 a.origin)]; have a2 := attB_len 64 2 (encPath four a.path); have a3 := attB_len 64 3 (be4 a.next.toNat); have a4 := attB_len 192 17 (encPath true a.path); have a5 := attB_len 192 18 (be4 a.makerAS.toNat ++ be4 a.maker.toNat); unfold attrsB headB oldB; simp only [List.length_append, be4_length, List.length_cons, List.length_nil] at *; split <;> split <;> (try simp only [List.length_nil]) <;> omega
theorem not_t {x : Bool} (h : true = !x) : x = false := by cases x <;> simp_all
theorem not_f {x : Bool} (h : false = !x) : x = true := by cases x <;> simp_all
theorem be2_i (n : Nat) : ([ofI .u8 (IntKind.wrap .u8 (Int.fdiv (n : Int) 256)), ofI .u8 (IntKind.wrap .u8 (n : Int))] : List UInt8) = be2 n := by rw [fdiv_1, of8w, of8w]; rfl
theorem sized_c (b : List UInt8) (K : List UInt8 -> Prop) (hl : b.length <= 100000000) (h : K (be2 b.length ++ b)) : zz34_q b K := by unfold zz34_q; rw [be2_i]; exact ⟨by decide, fun _ => concat_c _ _ (by simp) (by simp [be2_length]; omega) fun _ => of_eq h (by simp)⟩
theorem upd_j1 (w t a : List UInt8) (K : List UInt8 -> Int -> Prop) (hw : w.length <= 10000000000) (ht : t.length <= 10000000000) (ha : a.length <= 10000000000) (h : K (bodyF w a t).1 (bodyF w a t).2) : zz13_j1 w t a K := by
  unfold zz13_j1; rw [wr_i64 (n := (w.length : Int) + a.length) (by omega) (by omega), wr_i64 (n := (w.length : Int) + a.length + t.length) (by omega) (by omega), wr_i64 (by omega) (by omega)]
  unfold bodyF at h; refine IfB.intro (fun h1 => ?_) (fun h1 => ?_)
  . have h1 : 4073 < w.length + a.length + t.length := by have := of_decide_eq_true h1; omega
    rw [if_pos h1] at h; exact h
  . have h1 : ¬ 4073 < w.length + a.length + t.length := by have := of_decide_eq_false h1; omega
    rw [if_neg h1] at h; refine fun _ => sized_c w _ (by omega) fun _ _ => sized_c a _ (by omega) fun _ _ => concat_c _ _ (by simp) (by simp [be2_length]; omega) fun _ => of_eq2 h ?_
    simp
theorem zz13_c (u : Upd) (four : Bool) (K : List UInt8 -> Int -> Prop) (h1 : u.1.length <= 1000000000) (h2 : u.2.1.length <= 1000000000) (hf : FitA (updAttrs u)) (h : K (updR u four).1 (updR u four).2) : zz13_q u four K := by
  unfold zz13_q; have b1 := putsB_le u.1; have b2 := putsB_le u.2.1; have key : ∀ j, (j = !(u.1.all rightP && u.2.1.all rightP)) -> zz13_j0 four u (if u.1.all rightP then putsB u.1 else []) (if u.2.1.all rightP then putsB u.2.1 else []) j K := fun j hj => by
    unfold zz13_j0; simp only [ofI_u32]; unfold updR at h; refine IfB.intro (fun h3 => ?_) (fun h3 => ?_); have : (u.1.all rightP && u.2.1.all rightP) = false := not_t (h3 ▸ hj); rw [this] at h; exact h
    . have e : (u.1.all rightP && u.2.1.all rightP) = true := not_f (h3 ▸ hj); rw [e, if_pos rfl] at h; obtain ⟨e1, e2⟩ := Bool.and_eq_true_iff.1 e; rw [e1, e2, if_pos rfl, if_pos rfl]; refine IfB.intro (fun h4 _ => ?_) (fun h4 => ?_)
      . have h4 : 0 < u.2.1.length := by have := of_decide_eq_true h4; omega
        rw [if_pos h4] at h; refine zz4_c (updAttrs u) four _ hf.p1 hf.p2 hf.p3 hf.o1 fun _ => ?_; rw [errIf_ne]; refine IfB.intro (fun h5 => ?_) (fun h5 => ?_)
        . have h5 : attrsOk (updAttrs u) = false := by simpa using h5
          rw [h5] at h ⊢; exact h
        . have h5 : attrsOk (updAttrs u) = true := by simpa using h5
          rw [h5, if_pos rfl] at h ⊢; have hal := attrsB_le (four := four) h5; exact upd_j1 _ _ _ K (by omega) (by omega) (by omega) h
      . have h4 : ¬ 0 < u.2.1.length := by have := of_decide_eq_false h4; omega
        rw [if_neg h4] at h; exact upd_j1 _ _ _ K (by omega) (by omega) (by simp) h
  refine fun _ => upd_put_c _ _ h1 fun _ _ => upd_put_c _ _ h2 fun _ => ?_; refine IfB.intro (fun h3 => key true ?_) (fun h3 => key _ ?_)
  . have : u.1.all rightP = false := by simpa using h3
    rw [this]; rfl
  . have : u.1.all rightP = true := by simpa using h3
    rw [this]; rfl
end Go.Proofs.YtboagabgpcghcaaDoor
namespace Go.Proofs.YtboagabgpcghcaaDoor
open Go.Sh
def pv (l : List (List UInt8)) : Nat := l.foldl (fun a w => a * 256 + val w) 0
end Go.Proofs.YtboagabgpcghcaaDoor
namespace Go.Proofs.YtboagabgpcghcaaDoor
open Go.Sh
end Go.Proofs.YtboagabgpcghcaaDoor
namespace Go.Proofs.YtboagabgpcghcaaDoor
open Go.Sh
theorem itoa_3 (n : Nat) (h : n < 256) : (Lib.itoa n).length <= 3 := by
  unfold Lib.itoa; rw [if_neg (by omega), Int.toNat_natCast]
  unfold Lib.decDigits; split; simp; unfold Lib.decDigits; split; simp; unfold Lib.decDigits; split; simp; omega
def txt (a : Nat) : List UInt8 := Lib.join [Lib.itoa ((a / 16777216 % 256 : Nat) : Int), Lib.itoa ((a / 65536 % 256 : Nat) : Int), Lib.itoa ((a / 256 % 256 : Nat) : Int), Lib.itoa ((a % 256 : Nat) : Int)] [46]
theorem txt_len (a : Nat) : (txt a).length <= 15 := by
  have h1 := itoa_3 (a / 16777216 % 256) (by omega); have h2 := itoa_3 (a / 65536 % 256) (by omega); have h3 := itoa_3 (a / 256 % 256) (by omega); have h4 := itoa_3 (a % 256) (by omega)
  simp only [txt, Lib.join, List.intercalate, List.intersperse, List.flatten_cons, List.flatten_nil, List.length_append, List.length_cons, List.length_nil]; omega
theorem txt_eq (a : Nat) : txt a = Lib.join [Lib.decDigits (a / 16777216 % 256), Lib.decDigits (a / 65536 % 256), Lib.decDigits (a / 256 % 256), Lib.decDigits (a % 256)] [46] := by unfold txt; rw [itoa_nat, itoa_nat, itoa_nat, itoa_nat]
def pfT (a n : Nat) : List UInt8 := txt a ++ 47 :: Lib.decDigits n
end Go.Proofs.YtboagabgpcghcaaDoor
namespace Go.Proofs.YtboagabgpcghcaaDoor
open Go.Sh
end Go.Proofs.YtboagabgpcghcaaDoor
namespace Go.Proofs.YtboagabgpcghcaaDoor
open Go.Sh
def pT (a : UInt32) (n : Int) : List UInt8 := if right a.toNat n = true then pfT a.toNat n.toNat else []
theorem zz26_c (a : UInt32) (n : Int) (K : List UInt8 -> Prop) (hk : K (pT a n)) : zz26_q (a, n) K := by
  unfold zz26_q; simp only [ofI_u32]; have ha := UInt32.toNat_lt a; refine fun _ => right_c a n _ fun _ => IfB.intro (fun h => ?_) (fun h => ?_)
  . have h : right a.toNat n = false := by simpa using h
    unfold pT at hk; rw [h] at hk; exact hk
  have h : right a.toNat n = true := by simpa using h
  obtain ⟨h0, h32, _⟩ := right_iff.1 h; have hx : ∀ s : Nat, s <= 24 -> IntKind.wrap .i64 (bitsAnd .u32 (Int.fdiv (a.toNat : Int) ((2 : Int) ^ (min s 32))) 255) = ((a.toNat / 2 ^ s % 256 : Nat) : Int) := by
    intro s hs; have hd : a.toNat / 2 ^ s <= a.toNat := Nat.div_le_self _ _
    rw [Nat.min_eq_left (by omega), show ((2 : Int) ^ s) = ((2 ^ s : Nat) : Int) by rw [Int.natCast_pow]; rfl, Int.fdiv_eq_ediv_of_nonneg _ (Int.natCast_nonneg _), ← Int.natCast_ediv,
      show (255 : Int) = ((255 : Nat) : Int) from rfl, and_nat .u32 _ _ (lt_u32 (by omega)) (lt_u32 (by decide)), and_255, wu32 (by omega), wi64n _ (by omega)]
  let L : List (List UInt8) := [Lib.itoa ((a.toNat / 16777216 % 256 : Nat) : Int), Lib.itoa ((a.toNat / 65536 % 256 : Nat) : Int), Lib.itoa ((a.toNat / 256 % 256 : Nat) : Int), Lib.itoa ((a.toNat % 256 : Nat) : Int)]
  refine LoopJ.up 4 (fun i => (L.take i, (i : Int), ())) (fun _ => True) rfl trivial (fun i hi _ next hn => ?_) (fun _ next => ?_)
  . intro _; dsimp only [zz26_l5]; refine ifT (decide_eq_true (by omega)) ?_
    have e1 : IntKind.wrap .i64 (24 - IntKind.wrap .i64 (8 * (i : Int))) = ((24 - 8 * i : Nat) : Int) := by rw [wr_i64 (n := 8 * (i : Int)) (by omega) (by omega), wr_i64 (by omega) (by omega)]; omega
    have e2 : IntKind.wrap .i64 ((i : Int) + 1) = ((i + 1 : Nat) : Int) := by rw [wr_i64 (by omega) (by omega)]; omega
    rw [e1, e2, Int.toNat_natCast, show IntKind.bits .u32 = 32 from rfl, hx _ (by omega)]
    refine ⟨by omega, fun _ => ?_⟩
    unfold strconv_Itoa_q; intro _; refine ⟨by simp only [List.length_take, List.length_cons, List.length_nil]; omega, of_eq (hn trivial) ?_⟩
    have hi4 : i = 0 ∨ i = 1 ∨ i = 2 ∨ i = 3 := by omega
    rcases hi4 with rfl | rfl | rfl | rfl; rfl; rfl; rfl; show (L, _, ()) = (L.take 3 ++ [Lib.itoa ((a.toNat / 1 % 256 : Nat) : Int)], _, ()); rw [Nat.div_one]; rfl
  . intro _; dsimp only [zz26_l5]; refine ifF (by decide) fun _ => ?_
    unfold strings_Join_q; have hl := txt_len a.toNat; obtain ⟨m, rfl⟩ := Int.eq_ofNat_of_zero_le h0; have hm : m <= 32 := by omega
    have hd := dec_len (u := m) (k := 1) (by omega)
    have e3 : Lib.itoa (m : Int) = Lib.decDigits m := itoa_nat m; refine ⟨by simp [L], by show (txt a.toNat).length <= _; omega, fun _ => ⟨by show (txt a.toNat).length + _ <= _; unfold lenMax; simp only [List.length_cons, List.length_nil]; omega, fun _ => ?_⟩⟩
    unfold strconv_Itoa_q; rw [e3]; refine fun _ => ⟨by show (txt a.toNat ++ _).length + _ <= _; unfold lenMax; simp only [List.length_append, List.length_cons, List.length_nil]; omega, of_eq hk ?_⟩
    unfold pT pfT; rw [if_pos h]; show _ = txt a.toNat ++ [47] ++ Lib.decDigits m; simp
def within (p q : UInt32 × Int) : Bool := right p.1.toNat p.2 && (right q.1.toNat q.2 && (decide (p.2 <= q.2) && decide (q.1.toNat - q.1.toNat % hostBits p.2.toNat = p.1.toNat)))
end Go.Proofs.YtboagabgpcghcaaDoor
set_option maxRecDepth 100000
namespace Go.Proofs.YtboagabgpcghcaaDoor
open Go.Sh
theorem get16_c (x y : UInt8) (r : List UInt8) (K : Int -> Prop) (h : K ((x.toNat * 256 + y.toNat : Nat) : Int)) : zz35_q (x :: y :: r) K := by
  have hx := UInt8.toNat_lt x; have hy := UInt8.toNat_lt y; unfold zz35_q; refine ⟨by decide, AtN.of rfl fun _ => ⟨by decide, by decide, AtN.of rfl fun _ => of_eq h ?_⟩⟩
  rw [wi64n x.toNat (by omega), wi64n y.toNat (by omega), show (x.toNat : Int) * 256 = ((x.toNat * 256 : Nat) : Int) by omega, wi64n _ (by omega), or_nat .i64 _ _ (lt_i64 (by omega)) (lt_i64 (by omega)), or_256 _ _ (by omega), wi64n _ (by omega)]
theorem part_c (x y : UInt8) (r : List UInt8) (K : List UInt8 -> List UInt8 -> Bool -> Prop) (hl : r.length <= 1000000000) (h : if x.toNat * 256 + y.toNat <= r.length then K (r.take (x.toNat * 256 + y.toNat)) (r.drop (x.toNat * 256 + y.toNat)) true else K [] [] false) : zz24_q (x :: y :: r) K := by
  have hx := UInt8.toNat_lt x; have hy := UInt8.toNat_lt y; unfold zz24_q; refine ifF (decide_eq_false (by simp only [List.length_cons]; omega)) fun _ => get16_c x y r _ fun _ => ?_
  have e : (((x :: y :: r).length : Nat) : Int) - 2 = (r.length : Int) := by simp only [List.length_cons]; omega
  rw [e, wr_i64 (n := (r.length : Int)) (by omega) (by omega)]
  generalize hn : x.toNat * 256 + y.toNat = n at *; by_cases hc : n <= r.length
  . rw [if_pos hc] at h; rw [decide_eq_false (by omega)]
    unfold zz24_j0; refine ifF rfl fun _ => get16_c x y r _ fun _ => ?_; rw [hn]; have e2 : IntKind.wrap .i64 (2 + (n : Int)) = ((2 + n : Nat) : Int) := by rw [wr_i64 (by omega) (by omega)]; omega
    rw [e2, Int.toNat_natCast]; refine ⟨by omega, by simp only [List.length_cons]; omega, by decide, by omega, by omega, by simp only [List.length_cons]; omega, ?_⟩
    have a1 : (x :: y :: r).take (2 + n) = x :: y :: r.take n := by rw [Nat.add_comm]; rfl
    have a2 : (x :: y :: r).drop (2 + n) = r.drop n := by rw [Nat.add_comm]; rfl
    rw [a1, a2]; exact h
  . rw [if_neg hc] at h; rw [decide_eq_true (by omega)]
    unfold zz24_j0; exact ifT rfl h
def allF (l : List PfB) : List Pf × Bool := if l.all (fun x => x.2.1) = true then (l.map fun x => x.1, true) else ([], false)
theorem all_c (b : List UInt8) (K : List Pf -> Bool -> Prop) (hl : b.length <= 1000000000) (hp : (prefXs b).length <= 1000000000) (h : K (allF (prefXs b)).1 (allF (prefXs b)).2) : upd_all_q b K := by
  unfold upd_all_q; refine ⟨show b.length <= _ by omega, ?_⟩
  show EachJ _ _ (prefXs b) _; have main : ∀ (post pre : List PfB), pre ++ post = prefXs b -> pre.all (fun x => x.2.1) = true -> EachJ (fun (y : (List (UInt32 × Int) × Bool × List (UInt32 × Int) × Unit)) => WfY pl_upd_all_4000003.kinds y -> upd_all_e4000003 y.1 y.2.1 y.2.2.1 K)
      (fun (y : (List (UInt32 × Int) × Bool × List (UInt32 × Int) × Unit)) (x : ((UInt32 × Int) × Bool × Unit)) (next : (List (UInt32 × Int) × Bool × List (UInt32 × Int) × Unit) -> Prop) => WfY pl_upd_all_4000003.kinds y -> WfPs it_prefixes.ps x -> upd_all_l4000003 y.1 y.2.1 y.2.2.1 x.1 x.2.1 next K) post (([] : List (UInt32 × Int)), false, (pre.map fun x => x.1), ()) := by
    intro post; induction post with
    | nil =>
      intro pre he ha _; rw [List.append_nil] at he; subst he; unfold upd_all_e4000003; unfold allF at h; rw [if_pos ha] at h; exact h
    | cons x post ih =>
      intro pre he ha _ _; refine IfB.intro (b := !x.2.1) (fun h1 => ?_) (fun h1 => ?_)
      . have h1 : x.2.1 = false := by simpa using h1
        have hb : ¬ (prefXs b).all (fun x => x.2.1) = true := by rw [← he]; simp [h1]
        unfold allF at h; rw [if_neg hb] at h; exact h
      . have h1 : x.2.1 = true := by simpa using h1
        have hlen := congrArg List.length he; simp only [List.length_append, List.length_cons] at hlen; refine ⟨by simp only [List.length_map, List.length_cons, List.length_nil]; omega, ?_⟩
        have e : (pre.map fun x => x.1) ++ [((ofI .u32 (x.1.1.toNat : Int)), x.1.2)] = (pre ++ [x]).map fun x => x.1 := by simp [ofI_u32]
        have := ih (pre ++ [x]) (by rw [List.append_assoc]; exact he) (by rw [List.all_append, ha]; simp [h1])
        rw [← e] at this; exact this
  exact main (prefXs b) [] rfl rfl
def exU : Upd := ([(167772160, 8)], [], 0, [], 0, false, 0, false, 0, false, false, 0, 0, [], [], 0)
theorem exU_b : updR exU false = ([0, 2, 8, 10, 0, 0], 0) := by rfl
theorem exU_t : pT 167772160 8 = [49, 48, 46, 48, 46, 48, 46, 48, 47, 56] := by
  have d10 : Lib.decDigits (167772160 / 16777216 % 256) = [49, 48] := by
    show Lib.decDigits 10 = _; rw [dec_ge (by decide)]
    show Lib.decDigits 1 ++ _ = _; rw [dec_lt (by decide)]; rfl
  have d0 : ∀ k : Nat, k = 0 -> Lib.decDigits k = [48] := fun k hk => by subst hk; rw [dec_lt (by decide)]; rfl
  have d8 : Lib.decDigits (8 : Int).toNat = [56] := by
    show Lib.decDigits 8 = _; rw [dec_lt (by decide)]; rfl
  have hr : right (167772160 : UInt32).toNat 8 = true := by decide
  unfold pT pfT; rw [if_pos hr, d8, show (167772160 : UInt32).toNat = 167772160 from rfl, txt_eq, d10, d0 (167772160 / 65536 % 256) (by decide)]
  rfl
end Go.Proofs.YtboagabgpcghcaaDoor
set_option maxRecDepth 100000
namespace Go.Proofs.YtboagabgpcghcaaDoor
open Go.Sh
def partF : List UInt8 -> Option (List UInt8 × List UInt8)
  | x :: y :: r => if x.toNat * 256 + y.toNat <= r.length then some (r.take (x.toNat * 256 + y.toNat), r.drop (x.toNat * 256 + y.toNat)) else none
  | _ => none
theorem partF_len {b w r : List UInt8} (h : partF b = some (w, r)) : w.length <= b.length ∧ r.length <= b.length := by unfold partF at h; split at h; rename_i x y r'; split at h; cases h; simp only [List.length_take, List.length_drop, List.length_cons]; omega; cases h; cases h
theorem part_c2 (b : List UInt8) (K : List UInt8 -> List UInt8 -> Bool -> Prop) (hl : b.length <= 1000000000) (h1 : ∀ w r, partF b = some (w, r) -> K w r true) (h2 : partF b = none -> K [] [] false) : zz24_q b K := by
  have short : b.length < 2 -> zz24_q b K := fun hs => by
    unfold zz24_q; refine ifT (decide_eq_true (by omega)) ?_
    unfold zz24_j0; refine ifT rfl (h2 ?_)
    match b, hs with
    | [], _ => rfl
    | [_], _ => rfl
  match b, short with
  | [], short => exact short (by decide)
  | [_], short => exact short (by simp)
  | x :: y :: r, _ =>
    refine part_c x y r K (by simp only [List.length_cons] at hl; omega) ?_
    split; rename_i hc; exact h1 _ _ (by simp only [partF]; rw [if_pos hc])
    rename_i hc; exact h2 (by simp only [partF]; rw [if_neg hc])
theorem prefX_len : ∀ (k : Nat) (s : List UInt8), (prefX k s).length <= k
  | 0, _ => by simp [prefX]
  | _ + 1, [] => by simp [prefX]
  | k + 1, x :: r => by simp only [prefX]; split; have := prefX_len k (r.drop (oct8 x.toNat)); simp only [List.length_cons]; omega; simp
theorem prefX_right : ∀ (k : Nat) (s : List UInt8), ∀ p ∈ prefX k s, p.2.1 = true -> rightP p.1 = true
  | 0, _, p, hp, _ => by simp [prefX] at hp
  | _ + 1, [], p, hp, _ => by simp [prefX] at hp
  | k + 1, x :: r, p, hp, ht => by
    simp only [prefX] at hp; split at hp
    . rename_i hc; rcases List.mem_cons.1 hp with rfl | hp
      . unfold rightP prefOf; have h0 := (pxN_eq (r.take (oct8 x.toNat))).2; generalize pxN (r.take (oct8 x.toNat)) = A at h0; have hle : A % hostBits x.toNat <= A := Nat.mod_le _ _; have e : (UInt32.ofNat (A - A % hostBits x.toNat)).toNat = A - A % hostBits x.toNat := by rw [UInt32.toNat_ofNat', Nat.mod_eq_of_lt (by omega)]
        simp only; rw [e]; refine right_iff.2 ⟨by omega, by omega, ?_⟩
        rw [Int.toNat_natCast]; exact Nat.mod_eq_zero_of_dvd (Nat.dvd_sub_mod A)
      exact prefX_right k _ p hp ht
    rw [List.mem_singleton] at hp; subst hp; cases ht
theorem allF_right {s : List UInt8} (h : (allF (prefXs s)).2 = true) : (allF (prefXs s)).1.all rightP = true := by unfold allF at h ⊢; split; rename_i hc; refine List.all_eq_true.2 fun p hp => ?_; obtain ⟨x, hx, rfl⟩ := List.mem_map.1 hp; exact prefX_right _ _ x hx (List.all_eq_true.1 hc x hx); rfl
theorem allF_len (s : List UInt8) : (allF (prefXs s)).1.length <= s.length := by unfold allF; split; rw [List.length_map]; exact prefX_len _ _; simp
def mkU (g t : List Pf) (a : Attrs) (f : Int) : Upd := (g, t, a.1, a.2.1, a.2.2.1, a.2.2.2.1, a.2.2.2.2.1, a.2.2.2.2.2.1, a.2.2.2.2.2.2.1, a.2.2.2.2.2.2.2.1, a.2.2.2.2.2.2.2.2.1, a.2.2.2.2.2.2.2.2.2.1, a.2.2.2.2.2.2.2.2.2.2.1, a.2.2.2.2.2.2.2.2.2.2.2.1, a.2.2.2.2.2.2.2.2.2.2.2.2, f)
def zeroU : Upd := mkU [] [] attrs0 0
def readU (four : Bool) (b : List UInt8) : Upd × (Int × Int × List UInt8) × Bool :=
  match partF b with
  | none => (zeroU, (3, 1, []), false)
  | some (w, r) => match partF r with
    | none => (zeroU, (3, 1, []), false)
    | some (x, t) =>
      if (readA four (decide (0 < t.length)) x).2.1 = 3 then (zeroU, faultOf (readA four (decide (0 < t.length)) x).2.2, false)
      else if (allF (prefXs w)).2 = true ∧ (allF (prefXs t)).2 = true then
        if (readA four (decide (0 < t.length)) x).2.1 = 2 then (mkU ((allF (prefXs w)).1 ++ (allF (prefXs t)).1) [] attrs0 2, (0, 0, []), true)
        else if 0 < (allF (prefXs t)).1.length then (mkU (allF (prefXs w)).1 (allF (prefXs t)).1 (readA four (decide (0 < t.length)) x).1 (readA four (decide (0 < t.length)) x).2.1, (0, 0, []), true)
        else (mkU (allF (prefXs w)).1 [] attrs0 (readA four (decide (0 < t.length)) x).2.1, (0, 0, []), true)
      else (zeroU, (3, 10, []), false)
theorem zz11_c (b : List UInt8) (four : Bool) (K : Upd -> Int × Int × List UInt8 -> Bool -> Prop) (hl : b.length <= 100000) (h : K (readU four b).1 (readU four b).2.1 (readU four b).2.2) : zz11_q b four K := by
  unfold zz11_q; simp only [ofI_u32]; unfold zz31_q; unfold readU at h; refine fun _ => part_c2 b _ (by omega) (fun w r e1 _ => ?_) fun e1 _ => ?_
  rotate_left
  rw [e1] at h; exact ifT rfl fun _ _ => h; rw [e1] at h; obtain ⟨l1, l2⟩ := partF_len e1; refine ifF rfl fun _ => part_c2 r _ (by omega) (fun x t e2 _ => ?_) fun e2 _ => ?_
  rotate_left
  simp only [e2] at h; exact ifT rfl fun _ _ => h; simp only [e2] at h; obtain ⟨l3, l4⟩ := partF_len e2; have ed : decide ((((t.length : Nat) : Int) : Int) > 0) = decide (0 < t.length) := by
    by_cases hc : 0 < t.length; rw [decide_eq_true hc, decide_eq_true (by omega)]
    rw [decide_eq_false hc, decide_eq_false (by omega)]
  rw [ed]; refine fun _ => ⟨by omega, fun _ => ?_⟩
  generalize readA four (decide (0 < t.length)) x = q at *; have p1 := allF_len w; have p2 := allF_len t; have q1 := prefX_len w.length w; have q2 := prefX_len t.length t; refine IfB.intro (fun g => ?_) (fun g _ => all_c w _ (by omega) (by unfold prefXs; omega) fun _ _ => all_c t _ (by omega) (by unfold prefXs; omega) fun _ => ?_)
  . have g : (q.2.1 : Int) = 3 := by simpa using g
    rw [if_pos (by omega)] at h; exact h
  have g : ¬ (q.2.1 : Int) = 3 := by simpa using g
  rw [if_neg (by omega)] at h
  have bad : ¬ ((allF (prefXs w)).2 = true ∧ (allF (prefXs t)).2 = true) -> zz11_j0 q.1 (q.2.1 : Int) (allF (prefXs w)).1 (allF (prefXs t)).1 true K := fun hb => by rw [if_neg hb] at h; unfold zz11_j0 zz31_q; simp only [ofI_u32]; exact ifT rfl fun _ _ => h
  refine IfB.intro (fun g1 => bad fun e => by rw [e.1] at g1; cases g1) (fun g1 => ?_)
  have g1 : (allF (prefXs w)).2 = true := by simpa using g1
  cases g2 : (allF (prefXs t)).2 with
  | false => exact bad fun e => by rw [g2] at e; exact absurd e.2 (by decide)
  | true =>
    rw [if_pos ⟨g1, g2⟩] at h; unfold zz11_j0; refine ifF rfl (IfB.intro (fun g3 => ?_) (fun g3 => IfB.intro (fun g4 => ?_) (fun g4 => ?_)))
    . have g3 : (q.2.1 : Int) = 2 := by simpa using g3
      rw [if_pos (by omega)] at h
      refine ⟨by omega, ?_⟩
      unfold zz11_j1; rw [g3]; exact h
    . have g3 : ¬ (q.2.1 : Int) = 2 := by simpa using g3
      have g4 : 0 < (allF (prefXs t)).1.length := by have := of_decide_eq_true g4; omega
      rw [if_neg (by omega), if_pos g4] at h
      unfold zz11_j1; simp only [ofI_u32]; exact h
    . have g3 : ¬ (q.2.1 : Int) = 2 := by simpa using g3
      have g4 : ¬ 0 < (allF (prefXs t)).1.length := by have := of_decide_eq_false g4; omega
      rw [if_neg (by omega), if_neg g4] at h
      unfold zz11_j1; exact h
theorem loopF_inv {four : Bool} : ∀ (f : Nat) (b : List UInt8) (s s' : RdS), InvS s -> loopF four f b s = (s', none) -> InvS s'
  | f, [], s, s', hs, h => by
    have : loopF four f [] s = (s, none) := by cases f <;> rfl
    rw [this] at h; cases h; exact hs
  | 0, x :: b, s, s', hs, h => by simp only [loopF] at h; cases h; exact hs
  | f + 1, x :: b, s, s', hs, h => by
    simp only [loopF] at h; split at h; cases h; exact hs.found 2 (by decide)
    rename_i fl kd d n hn; split at h; cases h; rename_i s1 h1; exact loopF_inv f _ s1 s' (takeF_inv hs h1) h
theorem readA_le (four told : Bool) (b : List UInt8) : (readA four told b).2.1 <= 3 := by
  unfold readA; split; exact Nat.le_refl _
  . rename_i s hl; have hi := loopF_inv _ _ _ _ inv0 hl; have hw : (if told = true ∧ ¬ (1 ∈ s.seen ∧ 2 ∈ s.seen ∧ 3 ∈ s.seen) then s.found 2 else s).worst <= 2 := by
      by_cases hc : told = true ∧ ¬ (1 ∈ s.seen ∧ 2 ∈ s.seen ∧ 3 ∈ s.seen); rw [if_pos hc]; exact (hi.found 2 (by decide)).w
      rw [if_neg hc]; exact hi.w
    simp only; generalize (if told = true ∧ ¬ (1 ∈ s.seen ∧ 2 ∈ s.seen ∧ 3 ∈ s.seen) then s.found 2 else s) = s' at hw ⊢
    by_cases hc : 2 <= s'.worst; rw [if_pos hc]; exact Nat.le_succ_of_le hw; rw [if_neg hc]; exact Nat.le_succ_of_le hw
end Go.Proofs.YtboagabgpcghcaaDoor
set_option maxRecDepth 100000
namespace Go.Proofs.YtboagabgpcghcaaDoor
open Go.Sh
theorem exU_r : readU false [0, 2, 8, 10, 0, 0] = (mkU [(167772160, 8)] [] attrs0 0, (0, 0, []), true) := by rfl
theorem works_c (K : Bool -> Prop) (h : K true) : zz46_q K := by
  unfold zz46_q; have e1 : (ofI .u32 167772160 : UInt32) = 167772160 := rfl; have e2 : (ofI .u32 0 : UInt32) = 0 := rfl; rw [e1, e2]; refine fun _ => zz13_c exU false _ (by decide) (by decide) ⟨by decide, by decide, by decide, by decide⟩ ?_
  rw [exU_b]; refine fun _ _ => zz11_c _ false _ (by decide) ?_
  rw [exU_r]; refine fun _ => ifT rfl fun _ => ?_; unfold zz50_q; refine fun _ => ifT rfl (ifT rfl (ifT rfl ⟨by decide, AtN.of rfl fun _ => ifT rfl ⟨by decide, AtN.of rfl fun _ _ => ?_⟩⟩))
  simp only [ofI_u32]; refine zz26_c 167772160 8 _ ?_; rw [exU_t]; exact fun _ => h
theorem fitA_ok {a : Attrs} (h : attrsOk a = true) : FitA a := by
  simp only [attrsOk, Bool.and_eq_true, decide_eq_true_eq, Bool.not_eq_true'] at h; obtain ⟨⟨⟨⟨⟨⟨_, _⟩, hp⟩, _⟩, _⟩, _⟩, _, hl⟩ := h; simp only [pathOk, Bool.and_eq_true, decide_eq_true_eq] at hp; have h1 := parts_len a.path hp.1; refine ⟨by omega, by omega, fun s hs => ?_, by omega⟩
  obtain ⟨pre, post, e⟩ := List.append_of_mem hs; have h2 := cnt_parts pre post s; rw [← e] at h2; omega
theorem fitA_0 : FitA attrs0 := ⟨by decide, by decide, fun s hs => by simp [attrs0, Attrs.path] at hs, by decide⟩
theorem readU_safe (four : Bool) {b : List UInt8} (hl : b.length <= 100000) : ((readU four b).2.2 = false ∧ (readU four b).1 = zeroU) ∨
    ((readU four b).2.2 = true ∧ (readU four b).1.1.all rightP = true ∧ (readU four b).1.2.1.all rightP = true ∧ (readU four b).1.1.length <= 1000000 ∧ (readU four b).1.2.1.length <= 1000000 ∧ FitA (updAttrs (readU four b).1) ∧ (0 < (readU four b).1.2.1.length -> attrsOk (updAttrs (readU four b).1) = true)) := by
  unfold readU; cases e1 : partF b with
  | none => exact .inl ⟨rfl, rfl⟩
  | some q1 =>
  obtain ⟨w, r⟩ := q1; obtain ⟨l1, l2⟩ := partF_len e1; simp only; cases e2 : partF r with
  | none => exact .inl ⟨rfl, rfl⟩
  | some q2 =>
  obtain ⟨x, t⟩ := q2; obtain ⟨l3, l4⟩ := partF_len e2; simp only; have p1 := allF_len w; have p2 := allF_len t; by_cases c1 : (readA four (decide (0 < t.length)) x).2.1 = 3; rw [if_pos c1]; exact .inl ⟨rfl, rfl⟩; rw [if_neg c1]; by_cases c2 : (allF (prefXs w)).2 = true ∧ (allF (prefXs t)).2 = true
  rotate_left
  rw [if_neg c2]; exact .inl ⟨rfl, rfl⟩; rw [if_pos c2]; have r1 := allF_right c2.1; have r2 := allF_right c2.2; right; by_cases c3 : (readA four (decide (0 < t.length)) x).2.1 = 2
  . rw [if_pos c3]; refine ⟨rfl, ?_, rfl, ?_, Nat.zero_le _, fitA_0, fun h => absurd (show 0 < (0 : Nat) from h) (by decide)⟩
    show ((allF (prefXs w)).1 ++ (allF (prefXs t)).1).all rightP = true; rw [List.all_append, r1, r2]; rfl; show ((allF (prefXs w)).1 ++ (allF (prefXs t)).1).length <= 1000000; rw [List.length_append]; omega
  rw [if_neg c3]; by_cases c4 : 0 < (allF (prefXs t)).1.length
  . rw [if_pos c4]; have ht : decide (0 < t.length) = true := decide_eq_true (by omega)
    have hw := readA_le four (decide (0 < t.length)) x; rw [ht] at hw c1 c3 ⊢; have hok := (readA_safe (four := four) (b := x) (by omega)).1
    exact ⟨rfl, r1, r2, by show (allF (prefXs w)).1.length <= _; omega, by show (allF (prefXs t)).1.length <= _; omega, fitA_ok hok, fun _ => hok⟩
  rw [if_neg c4]; exact ⟨rfl, r1, rfl, by show (allF (prefXs w)).1.length <= _; omega, Nat.zero_le _, fitA_0, fun h => absurd (show 0 < (0 : Nat) from h) (by decide)⟩
theorem all_at {l pre post : List Pf} {p : Pf} (h : l.all rightP = true) (e : l = pre ++ p :: post) : right p.1.toNat p.2 = true :=
  List.all_eq_true.1 h p (by rw [e]; simp)
theorem updSafe_q (b : List UInt8) (four other : Bool) : zz37_q b four other fun r => r = true := by
  unfold zz37_q; simp only [ofI_u32]; refine fun _ => works_c _ fun _ => ifF rfl ⟨by omega, by omega, fun _ => ?_⟩
  have hl : (b.take ((min (b.length : Int) 1500).toNat)).length <= 1500 := by simp only [List.length_take]; omega
  generalize b.take ((min (b.length : Int) 1500).toNat) = d at *; refine zz11_c d four _ (by omega) fun _ => ?_
  rcases readU_safe four (b := d) (by omega) with ⟨e1, e2⟩ | ⟨e1, r1, r2, l1, l2, hf, hok⟩
  rw [e1, e2]; refine ifT rfl fun _ => ?_; unfold upd_End_q; exact ifT rfl fun _ => rfl; rw [e1]; refine ifF rfl ?_; generalize (readU four d).1 = u at *; refine LoopJ.over u.1 (fun pre => ((pre.length : Int), ())) (fun _ => True) rfl trivial (fun pre x post hp hn _ next hx => ?_) (fun _ next _ => ?_)
  . intro _; dsimp only [zz37_l8]; simp only [ofI_u32]; refine ifT (decide_eq_true (by omega)) ⟨by omega, AtN.of (at_pre hp) fun _ _ => right_c x.1 x.2 _ fun _ => ?_⟩
    rw [all_at r1 hp]; refine ifF rfl (of_eq (hx trivial) ?_); rw [wr_i64 (by omega) (by omega)]; simp
  . dsimp only [zz37_l8]; refine ifF (decide_eq_false (by omega)) ?_
    refine LoopJ.over u.2.1 (fun pre => ((pre.length : Int), ())) (fun _ => True) rfl trivial (fun pre x post hp hn _ next hx => ?_) (fun _ next _ => ?_)
    . intro _; dsimp only [zz37_l13]; simp only [ofI_u32]; refine ifT (decide_eq_true (by omega)) ⟨by omega, AtN.of (at_pre hp) fun _ _ => right_c x.1 x.2 _ fun _ => ?_⟩
      rw [all_at r2 hp]; refine ifF rfl (of_eq (hx trivial) ?_); rw [wr_i64 (by omega) (by omega)]; simp
    . dsimp only [zz37_l13]; simp only [ofI_u32]; refine ifF (decide_eq_false (by omega)) fun _ => zz13_c u other _ (by omega) (by omega) hf fun _ => ?_
      have key : (updR u other).2 = 0 ∨ (updR u other).2 = 3 := by
        have hb : ∀ w a t, (bodyF w a t).2 = 0 ∨ (bodyF w a t).2 = 3 := fun w a t => by unfold bodyF; split; exact .inr rfl; exact .inl rfl
        unfold updR; rw [r1, r2, if_pos (show (true && true) = true from rfl)]
        by_cases hc : 0 < u.2.1.length; rw [if_pos hc, hok hc, if_pos rfl]; exact hb _ _ _; rw [if_neg hc]; exact hb _ _ _
      rcases key with e | e; rw [e]; exact ifT rfl (by trivial)
      rw [e]; exact ifF rfl (by first | rfl | decide)
end Go.Proofs.YtboagabgpcghcaaDoor
