/-
  Prefixes that are right: what the program finds, and the document.
  Paths and attributes as data.
  Paths (layer 19): what the program's functions and the document's find.
  Attributes (layer 20): what the program's functions and the document's find.
  Attributes (layer 20): what the program puts.
  Attributes (layer 20): what the program puts, and what the document does.
  Attributes (layer 20): what the document puts; the copies.
  Updates' bytes (layer 21) and messages (layer 17): what the program builds, and the document.
  Updates' bodies and messages: what the program builds, and the document.
  Attributes (layer 20): copies.
  Addresses' texts: what is read as one.
  Numbers' texts, prefixes' texts.
  Addresses' and prefixes' texts, as they are told.
  Prefixes within prefixes, in numbers.
  Prefixes: their texts, and which lie within which: what the program finds, and the document.
  The example of chapter 21; the laws UpdBuilds and UpdTells. Conditions: none beyond those of the given statements.
-/
import Derived.Test.YtboagabgpcghcaaDoorQ
import Derived.Test.YtboagabgpcghcaaDoorHm1
import Derived.Test.YtboagabgpcghcaaDoorHm2
import Derived.Test.YtboagabgpcghcaaDoorTx1
set_option linter.unusedVariables false
set_option linter.unusedSimpArgs false
namespace Go.Proofs.YtboagabgpcghcaaDoor
open Go.Sh
theorem mask_c (a n : Nat) (K : Int → Prop) (ha : a < 4294967296) (hn : n ≤ 32) (hk : K ((a - a % hostBits n : Nat) : Int)) : upd_mask_q a n K := by
  unfold upd_mask_q
  have e1 : IntKind.wrap .i64 (32 - (n : Int)) = ((32 - n : Nat) : Int) := by rw [wr_i64 (by omega) (by omega)]; omega
  rw [e1]
  refine ⟨by omega, ?_⟩
  have hp : 2 ^ (32 - n) ≤ 2 ^ 32 := Nat.pow_le_pow_right (by decide) (by omega)
  have h0 : 0 < 2 ^ (32 - n) := Nat.two_pow_pos _
  have e32 : (2 : Nat) ^ 32 = 4294967296 := rfl
  have e2 : (min ((32 - n : Nat) : Int).toNat (IntKind.bits .u64)) = 32 - n := by
    rw [Int.toNat_natCast]
    have : IntKind.bits .u64 = 64 := rfl
    rw [this]; omega
  have e3 : (1 * (2 ^ (32 - n)) : Int) = ((2 ^ (32 - n) : Nat) : Int) := by rw [Int.one_mul]; norm_cast
  rw [e2, e3, wu64n _ (by omega), show (((2 ^ (32 - n) : Nat) : Int) - 1) = ((2 ^ (32 - n) - 1 : Nat) : Int) by omega, wu64n _ (by omega), wu32 (by omega), andNot_low a ha _ (by omega)]
  exact hk
def right (a : Nat) (n : Int) : Bool := decide (0 ≤ n) && (decide (n ≤ 32) && (a % hostBits n.toNat == 0))
theorem right_iff {a : Nat} {n : Int} : right a n = true ↔ 0 ≤ n ∧ n ≤ 32 ∧ a % hostBits n.toNat = 0 := by simp [right]
theorem right_c (a : UInt32) (n : Int) (K : Bool → Prop) (hk : K (right a.toNat n)) : upd_Right_q (a, n) K := by
  unfold upd_Right_q
  have ha := u32_lt a
  refine IfB.intro (fun h => IfB.intro (fun h2 => ?_) (fun h2 => of_eq hk ?_)) (fun h => of_eq hk ?_)
  · have h0 : 0 ≤ n := by simpa using h
    have h1 : n ≤ 32 := by simpa using h2
    obtain ⟨m, rfl⟩ := Int.eq_ofNat_of_zero_le h0
    intro _
    refine mask_c a.toNat m _ ha (by omega) fun _ => of_eq hk ?_
    have hle : a.toNat % hostBits m ≤ a.toNat := Nat.mod_le _ _
    unfold right
    rw [decide_eq_true h0, decide_eq_true h1, Bool.true_and, Bool.true_and, Int.toNat_natCast]
    by_cases e : a.toNat % hostBits m = 0
    · rw [e]; simp
    · have e1 : (a.toNat % hostBits m == 0) = false := beq_eq_false_iff_ne.2 e
      have e2 : (((a.toNat - a.toNat % hostBits m : Nat) : Int) == (a.toNat : Int)) = false := beq_eq_false_iff_ne.2 (by omega)
      rw [e1, e2]
  · unfold right; simp at h2; rw [decide_eq_false (show ¬ n ≤ 32 by omega)]; simp
  · unfold right; simp at h; rw [decide_eq_false (show ¬ 0 ≤ n by omega)]; simp
end Go.Proofs.YtboagabgpcghcaaDoor
namespace Go.Proofs.YtboagabgpcghcaaDoor
open Go.Sh
abbrev Seg := Bool × List UInt32
abbrev Raw := Int × List UInt8
abbrev Attrs := Int × List Seg × UInt32 × Bool × UInt32 × Bool × UInt32 × Bool × Bool × UInt32 × UInt32 × List UInt32 × List Raw
abbrev Attrs.origin (a : Attrs) : Int := a.1
abbrev Attrs.path (a : Attrs) : List Seg := a.2.1
abbrev Attrs.next (a : Attrs) : UInt32 := a.2.2.1
abbrev Attrs.hasMed (a : Attrs) : Bool := a.2.2.2.1
abbrev Attrs.med (a : Attrs) : UInt32 := a.2.2.2.2.1
abbrev Attrs.hasLocal (a : Attrs) : Bool := a.2.2.2.2.2.1
abbrev Attrs.loc (a : Attrs) : UInt32 := a.2.2.2.2.2.2.1
abbrev Attrs.atomic (a : Attrs) : Bool := a.2.2.2.2.2.2.2.1
abbrev Attrs.hasMaker (a : Attrs) : Bool := a.2.2.2.2.2.2.2.2.1
abbrev Attrs.makerAS (a : Attrs) : UInt32 := a.2.2.2.2.2.2.2.2.2.1
abbrev Attrs.maker (a : Attrs) : UInt32 := a.2.2.2.2.2.2.2.2.2.2.1
abbrev Attrs.comms (a : Attrs) : List UInt32 := a.2.2.2.2.2.2.2.2.2.2.2.1
abbrev Attrs.others (a : Attrs) : List Raw := a.2.2.2.2.2.2.2.2.2.2.2.2
end Go.Proofs.YtboagabgpcghcaaDoor
namespace Go.Proofs.YtboagabgpcghcaaDoor
open Go.Sh
def cnt (p : List Seg) : Nat := (p.map (·.2.length)).sum
theorem cnt_snoc (p : List Seg) (s : Seg) : cnt (p ++ [s]) = cnt p + s.2.length := by simp [cnt]
theorem path_count_c (p : List Seg) (K : Int → Prop) (hl : p.length ≤ 9223372036854775807) (hc : cnt p ≤ 9223372036854775807) (h : K (cnt p)) : path_count_q p K := by
  unfold path_count_q
  refine LoopJ.list p (fun pre => ((cnt pre : Int), (pre.length : Int), ())) (fun _ => True) rfl trivial (fun pre s post hp _ next hn => ?_) (fun _ next _ => ?_)
  · intro _
    dsimp only [path_count_l3]
    refine ifT (by simp [hp]; omega) ⟨by omega, AtN.of (at_pre hp) fun _ => of_eq (hn trivial) ?_⟩
    have h1 : p.length = pre.length + 1 + post.length := by rw [hp]; simp; omega
    have h2 : cnt p = cnt pre + s.2.length + cnt post := by rw [hp]; simp [cnt]; omega
    rw [wr_i64 (by omega) (by omega), wr_i64 (by omega) (by omega), cnt_snoc]
    simp
  · dsimp only [path_count_l3]
    exact ifF (by simp) h
theorem index_c (l : List UInt32) (v : Int) (K : Int → Prop) (hl : l.length ≤ 9223372036854775807) (h1 : ∀ i : Nat, (∃ x ∈ l, (x.toNat : Int) = v) → K i) (h2 : (∀ x ∈ l, (x.toNat : Int) ≠ v) → K (-1)) : slices_Indexasl_uint32_uint32_q l v K := by
  unfold slices_Indexasl_uint32_uint32_q
  refine LoopJ.list l (fun pre => ((pre.length : Int), ())) (fun pre => ∀ x ∈ pre, (x.toNat : Int) ≠ v) rfl (by simp) (fun pre x post hp hP next hn => ?_) (fun hP next _ => ?_)
  · intro _
    dsimp only [slices_Indexasl_uint32_uint32_l2]
    refine ifT (by simp [hp]; omega) ⟨by omega, AtN.of (at_pre hp) fun _ => ?_⟩
    refine IfB.intro (fun h => ?_) (fun h => ?_)
    · exact h1 pre.length ⟨x, by simp [hp], by simpa using (by simpa using h : v = (x.toNat : Int)).symm⟩
    · have hne : v ≠ (x.toNat : Int) := by simpa using h
      refine of_eq (hn fun y hy => ?_) ?_
      · rcases List.mem_append.1 hy with hy | hy
        · exact hP y hy
        · simp only [List.mem_singleton] at hy
          subst hy
          exact fun e => hne e.symm
      · have h1 : l.length = pre.length + 1 + post.length := by rw [hp]; simp; omega
        rw [wr_i64 (by omega) (by omega)]
        simp
  · dsimp only [slices_Indexasl_uint32_uint32_l2]
    exact ifF (by simp) (h2 hP)
theorem contains_c (l : List UInt32) (v : Int) (K : Bool → Prop) (hl : l.length ≤ 9223372036854775807) (h : K (l.any fun x => (x.toNat : Int) == v)) : slices_Containsasl_uint32_uint32_q l v K := by
  unfold slices_Containsasl_uint32_uint32_q
  intro _
  refine index_c l v _ hl (fun i hx _ => of_eq h ?_) (fun hx _ => of_eq h ?_)
  · obtain ⟨x, hx, hv⟩ := hx
    rw [List.any_eq_true.2 ⟨x, hx, by simp [hv]⟩]
    simp
  · have : (l.any fun x => (x.toNat : Int) == v) = false := by
      rw [List.any_eq_false]; intro x h; simpa using hx x h
    rw [this]; rfl
theorem u32_ne0 (x : UInt32) : (x != 0) = !((x.toNat : Int) == 0) := by
  by_cases h : x = 0
  · subst h; rfl
  · have : x.toNat ≠ 0 := fun e => h (UInt32.toNat_inj.1 e)
    have h2 : ((x.toNat : Int) == 0) = false := by simpa using this
    rw [h2]
    simp [h]
def partOk (s : Seg) : Bool := decide (0 < s.2.length) && decide (s.2.length ≤ 255) && s.2.all fun x => x != 0
theorem path_part_c (s : Seg) (K : Bool → Prop) (h : K (partOk s)) : path_part_q s K := by
  unfold path_part_q
  refine IfB.intro (fun h1 => IfB.intro (fun h2 => ?_) (fun h2 => of_eq h ?_)) (fun h1 => of_eq h ?_)
  · intro _
    have h1 : 0 < s.2.length := by simpa using h1
    have h2 : s.2.length ≤ 255 := by simp at h2; omega
    refine contains_c s.2 0 _ (by omega) (fun _ => of_eq h ?_)
    have e : (s.2.all fun x => x != 0) = !(s.2.any fun x => (x.toNat : Int) == 0) := by
      rw [List.not_any_eq_all_not]
      congr 1
      funext x
      exact u32_ne0 x
    simp [partOk, h1, h2, e]
  · have : ¬ s.2.length ≤ 255 := by simp at h2; omega
    simp [partOk, this]
  · have : ¬ 0 < s.2.length := by simp at h1; simp [h1]
    simp [partOk, this]
def pathOk (p : List Seg) : Bool := p.all partOk && decide (cnt p ≤ 64)
def errIf (b : Bool) : Int := if b then 0 else 2
theorem path_Check_c (p : List Seg) (K : Int → Prop) (hl : p.length ≤ 9223372036854775807) (hc : cnt p ≤ 9223372036854775807) (h : K (errIf (pathOk p))) : path_Check_q p K := by
  unfold path_Check_q
  refine LoopJ.over p (fun pre => ((pre.length : Int), ())) (fun pre => pre.all partOk = true) rfl rfl (fun pre s post hp hn hP next hx => ?_) (fun hP next _ => ?_)
  · intro _
    dsimp only [path_Check_l2]
    refine ifT (decide_eq_true (by omega)) ⟨by omega, AtN.of (at_pre hp) fun _ _ => ?_⟩
    refine path_part_c s _ fun _ => IfB.intro (fun h1 => of_eq h ?_) (fun h1 => of_eq (hx ?_) ?_)
    · have : p.all partOk = false := by
        rw [hp]; simp at h1; simp [h1]
      simp [pathOk, this, errIf]
    · simp at h1
      simp [h1]
      simpa using hP
    · rw [wr_i64 (by omega) (by omega)]; simp
  · dsimp only [path_Check_l2]
    refine ifF (decide_eq_false (by omega)) fun _ => path_count_c p _ hl hc fun _ => IfB.intro (fun h1 => of_eq h ?_) (fun h1 => of_eq h ?_)
    · have : ¬ cnt p ≤ 64 := by simp at h1; omega
      simp [pathOk, this, errIf]
    · have : cnt p ≤ 64 := by simp at h1; omega
      rw [pathOk, hP, decide_eq_true this]; rfl
theorem cnt_parts (pre post : List Seg) (s : Seg) : cnt (pre ++ s :: post) = cnt pre + s.2.length + cnt post := by simp [cnt]; omega
def encAS (four : Bool) (x : UInt32) : List UInt8 := if four then be4 x.toNat else be2 (if x.toNat > 65535 then 23456 else x.toNat)
def encSeg (four : Bool) (s : Seg) : List UInt8 := [if s.1 then 1 else 2, UInt8.ofNat s.2.length] ++ s.2.flatMap (encAS four)
def encPath (four : Bool) (p : List Seg) : List UInt8 := p.flatMap (encSeg four)
theorem encAS_len (four : Bool) (x : UInt32) : (encAS four x).length ≤ 4 := by unfold encAS; split <;> simp [be4, be2]
theorem encASs_len (four : Bool) : ∀ l : List UInt32, (l.flatMap (encAS four)).length ≤ 4 * l.length
  | [] => by simp
  | x :: l => by
    have h1 := encAS_len four x
    have h2 := encASs_len four l
    simp only [List.flatMap_cons, List.length_append, List.length_cons]
    omega
theorem encPath_len (four : Bool) : ∀ p : List Seg, (encPath four p).length ≤ 2 * p.length + 4 * cnt p
  | [] => by simp [encPath]
  | s :: p => by
    have h1 := encASs_len four s.2
    have h2 := encPath_len four p
    have h3 : cnt (s :: p) = s.2.length + cnt p := by simp [cnt]
    have h4 : (encPath four (s :: p)).length = 2 + (s.2.flatMap (encAS four)).length + (encPath four p).length := by simp [encPath, encSeg]; omega
    simp only [List.length_cons]
    omega
theorem parts_len : ∀ p : List Seg, p.all partOk = true → p.length ≤ cnt p
  | [], _ => by simp
  | s :: p, h => by
    simp only [List.all_cons, Bool.and_eq_true] at h
    have h1 := parts_len p h.2
    have h2 : 0 < s.2.length := by have := h.1; simp only [partOk, Bool.and_eq_true, decide_eq_true_eq] at this; exact this.1.1
    have h3 : cnt (s :: p) = s.2.length + cnt p := by simp [cnt]
    simp only [List.length_cons]
    omega
theorem encPath_snoc (four : Bool) (p : List Seg) (s : Seg) : encPath four (p ++ [s]) = encPath four p ++ encSeg four s := by simp [encPath]
theorem enc_short {four : Bool} {p pre post : List Seg} {s : Seg} (hp : p = pre ++ s :: post) (hok : pathOk p = true) : (encPath four pre).length + 4 * s.2.length + 10 ≤ 1000 := by
  simp only [pathOk, Bool.and_eq_true, decide_eq_true_eq] at hok
  have h1 := parts_len p hok.1
  have h2 := encPath_len four pre
  have h3 := cnt_parts pre post s
  rw [← hp] at h3
  have h4 : pre.length ≤ p.length := by rw [hp]; simp
  omega
theorem encAS_four (x : UInt32) : encAS true x = [UInt8.ofNat (x.toNat / 16777216), UInt8.ofNat (x.toNat / 65536), UInt8.ofNat (x.toNat / 256), UInt8.ofNat x.toNat] := rfl
theorem path_kind_c (s : Seg) (K : Int → Prop) (h : K (if s.1 then 1 else 2)) : path_kind_q s K := by
  unfold path_kind_q
  refine IfB.intro (fun h1 => of_eq h ?_) (fun h1 => of_eq h ?_) <;> simp [h1]
theorem path_Put_c (p : List Seg) (four : Bool) (K : List UInt8 → Int → Prop) (hl : p.length ≤ 9223372036854775807) (hc : cnt p ≤ 9223372036854775807) (h : K (if pathOk p then encPath four p else []) (errIf (pathOk p))) : path_Put_q p four K := by
  unfold path_Put_q
  intro _
  refine path_Check_c p _ hl hc fun _ => IfB.intro (fun h1 => ?_) (fun h1 => ?_)
  · have : pathOk p = false := by cases hb : pathOk p <;> simp [errIf, hb] at h1 ⊢
    rw [this] at h ⊢
    exact h
  · have hok : pathOk p = true := by cases hb : pathOk p <;> simp [errIf, hb] at h1 ⊢
    rw [hok] at h
    refine LoopJ.over p (fun pre => (encPath four pre, (pre.length : Int), ())) (fun _ => True) rfl trivial (fun pre s post hp hn _ next hx => ?_) (fun _ next _ => ?_)
    · intro _
      dsimp only [path_Put_l6]
      have hsh := enc_short (four := four) hp hok
      refine ifT (decide_eq_true (by omega)) ⟨by omega, AtN.of (at_pre hp) fun _ _ => path_kind_c s _ fun _ => ⟨by simp only [List.length_cons, List.length_nil]; omega, ?_⟩⟩
      refine LoopJ.over s.2 (fun l => (encPath four pre ++ [if s.1 then 1 else 2, UInt8.ofNat s.2.length] ++ l.flatMap (encAS four), (l.length : Int), ())) (fun _ => True) ?_ trivial (fun l x r hs hm _ next' hy => ?_) (fun _ next' _ => ?_)
      · rw [of8w]
        cases s.1 <;> simp [ofI]
      · intro _
        dsimp only [path_Put_l10]
        have h5 := encASs_len four l
        refine ifT (decide_eq_true (by omega)) ⟨by omega, AtN.of (at_pre hs) fun _ => IfB.intro (fun h1 => ?_) (fun h1 => IfB.intro (fun h2 => ?_) (fun h2 => ?_))⟩
        · refine ⟨by omega, by omega, by simp only [List.length_append, List.length_cons, List.length_nil]; omega, by decide, by simp only [List.length_append, List.length_cons, List.length_nil]; omega, ?_⟩
          dsimp only [path_Put_j1]
          refine of_eq (hy trivial) ?_
          rw [wr_i64 (by omega) (by omega), fdiv_1, fdiv_2, fdiv_3, of8w, of8w, of8w, of8w]
          simp [h1, encAS_four]
        · refine ⟨by decide, by simp only [List.length_append, List.length_cons, List.length_nil]; omega, ?_⟩
          dsimp only [path_Put_j1]
          refine of_eq (hy trivial) ?_
          have h2 : x.toNat > 65535 := by simp at h2; omega
          rw [wr_i64 (by omega) (by omega)]
          simp [h1, encAS, h2, be2]
          decide
        · refine ⟨by decide, by simp only [List.length_append, List.length_cons, List.length_nil]; omega, ?_⟩
          dsimp only [path_Put_j1]
          refine of_eq (hy trivial) ?_
          have h2 : ¬ x.toNat > 65535 := by simp at h2; omega
          rw [wr_i64 (by omega) (by omega), fdiv_1, of8w, of8w]
          simp [h1, encAS, h2, be2]
      · dsimp only [path_Put_l10]
        refine ifF (decide_eq_false (by omega)) (of_eq (hx trivial) ?_)
        rw [wr_i64 (by omega) (by omega), encPath_snoc]
        simp [encSeg]
    · dsimp only [path_Put_l6]
      exact ifF (decide_eq_false (by omega)) h
end Go.Proofs.YtboagabgpcghcaaDoor
namespace Go.Proofs.YtboagabgpcghcaaDoor
open Go.Sh
def knownK (k : Int) : Bool := k == 1 || k == 2 || k == 3 || k == 4 || k == 5 || k == 6 || k == 7 || k == 8 || k == 17 || k == 18
def flagOf (k : Int) : Int := if k = 1 ∨ k = 2 ∨ k = 3 ∨ k = 5 ∨ k = 6 then 64 else if k = 4 then 128 else if k = 7 ∨ k = 8 ∨ k = 17 ∨ k = 18 then 192 else 0
theorem attr_hop_c (n : Int) (K : Bool → Prop) (h : K (decide (n ≠ 0 ∧ n < 3758096384))) : attr_hop_q n K := by
  unfold attr_hop_q
  refine IfB.intro (fun h1 => of_eq h ?_) (fun h1 => of_eq h ?_) <;> simp_all
theorem attr_known_c (k : Int) (K : Int → Bool → Prop) (h : K (flagOf k) (knownK k)) : attr_known_q k K := by
  by_cases h1 : k = 1; · subst h1; exact h
  by_cases h2 : k = 2; · subst h2; exact h
  by_cases h3 : k = 3; · subst h3; exact h
  by_cases h5 : k = 5; · subst h5; exact h
  by_cases h6 : k = 6; · subst h6; exact h
  by_cases h4 : k = 4; · subst h4; exact h
  by_cases h7 : k = 7; · subst h7; exact h
  by_cases h8 : k = 8; · subst h8; exact h
  by_cases h17 : k = 17; · subst h17; exact h
  by_cases h18 : k = 18; · subst h18; exact h
  have e : ∀ n : Int, k ≠ n → (k == n) = false := fun n hn => by simpa using hn
  have ef : flagOf k = 0 := by simp [flagOf, h1, h2, h3, h4, h5, h6, h7, h8, h17, h18]
  have ek : knownK k = false := by simp [knownK, h1, h2, h3, h4, h5, h6, h7, h8, h17, h18]
  rw [ef, ek] at h
  simp only [attr_known_q, attr_known_j0, attr_known_j1, attr_known_j2, e 1 h1, e 2 h2, e 3 h3, e 4 h4, e 5 h5, e 6 h6, e 7 h7, e 8 h8, e 17 h17, e 18 h18, IfB]
  exact h
def othersOk : Int → List Raw → Bool
  | _, [] => true
  | last, x :: l => (!knownK x.1 && decide (last < x.1) && decide (x.1 ≤ 255) && decide (x.2.length ≤ 255)) && othersOk x.1 l
def lastOf : Int → List Raw → Int
  | last, [] => last
  | _, x :: l => lastOf x.1 l
theorem othersOk_app : ∀ (l l' : List Raw) (last : Int), othersOk last (l ++ l') = (othersOk last l && othersOk (lastOf last l) l')
  | [], l', last => by simp [othersOk, lastOf]
  | x :: l, l', last => by simp only [List.cons_append, othersOk, lastOf, othersOk_app l l' x.1, Bool.and_assoc]
theorem lastOf_snoc : ∀ (l : List Raw) (x : Raw) (last : Int), lastOf last (l ++ [x]) = x.1
  | [], x, last => rfl
  | y :: l, x, last => by simp only [List.cons_append, lastOf]; exact lastOf_snoc l x y.1
theorem attr_others_c (l : List Raw) (K : Bool → Prop) (hl : l.length ≤ 9223372036854775807) (h : K (othersOk (-1) l && decide (l.length ≤ 8))) : attr_others_q l K := by
  unfold attr_others_q
  refine LoopJ.over l (fun pre => (lastOf (-1) pre, (pre.length : Int), ())) (fun pre => othersOk (-1) pre = true) rfl rfl (fun pre x post hp hn hP next hx => ?_) (fun hP next _ => ?_)
  · intro _
    dsimp only [attr_others_l3, attr_others_j0]
    have good : othersOk (lastOf (-1) pre) [x] = true → next (x.1, IntKind.wrap .i64 ((pre.length : Int) + 1), ()) := fun hg => by
      refine of_eq (hx (by rw [othersOk_app, hP, hg]; rfl)) ?_
      rw [lastOf_snoc, wr_i64 (by omega) (by omega)]; simp
    have bad : othersOk (lastOf (-1) pre) [x] = false → K false := fun hb => of_eq h (by
      have e : pre ++ x :: post = (pre ++ [x]) ++ post := by simp
      rw [hp, e, othersOk_app, othersOk_app, hb]; simp)
    refine ifT (decide_eq_true (by omega)) ⟨by omega, AtN.of (at_pre hp) fun _ _ => ?_⟩
    refine attr_known_c x.1 _ fun _ => IfB.intro (fun h1 => bad ?_) (fun h1 => IfB.intro (fun h2 => bad ?_) (fun h2 => IfB.intro (fun h3 => bad ?_) (fun h3 => IfB.intro (fun h4 => bad ?_) (fun h4 => good ?_))))
    · simp [othersOk, h1]
    · have h2 : ¬ lastOf (-1) pre < x.1 := by simp at h2; omega
      simp [othersOk, h2]
    · have h3 : ¬ x.1 ≤ 255 := by simp at h3; omega
      simp [othersOk, h3]
    · have h4 : ¬ x.2.length ≤ 255 := by simp at h4; omega
      simp [othersOk, h4]
    · have h2 : lastOf (-1) pre < x.1 := by simp at h2; omega
      have h3 : x.1 ≤ 255 := by simp at h3; omega
      have h4 : x.2.length ≤ 255 := by simp at h4; omega
      simp [othersOk, h1, h2, h3, h4]
  · dsimp only [attr_others_l3]
    refine ifF (decide_eq_false (by omega)) (of_eq h ?_)
    rw [hP, Bool.true_and]
    congr 1
    apply propext
    omega
def attrsOk (a : Attrs) : Bool := decide (0 ≤ a.origin) && decide (a.origin ≤ 2) && pathOk a.path && decide ((a.next.toNat : Int) ≠ 0 ∧ (a.next.toNat : Int) < 3758096384) && !(a.hasMaker && (a.makerAS.toNat : Int) == 0) && decide (a.comms.length ≤ 32) && (othersOk (-1) a.others && decide (a.others.length ≤ 8))
theorem errIf_ne (b : Bool) : (errIf b != 0) = !b := by cases b <;> rfl
theorem attr_Check_c (a : Attrs) (K : Int → Prop) (hl : a.path.length ≤ 9223372036854775807) (hc : cnt a.path ≤ 9223372036854775807) (ho : a.others.length ≤ 9223372036854775807) (h : K (errIf (attrsOk a))) : attr_Check_q a K := by
  obtain ⟨origin, path, nxt, hasMed, med, hasLocal, loc, atomic, hasMaker, makerAS, maker, comms, others⟩ := a
  have bad : attrsOk (origin, path, nxt, hasMed, med, hasLocal, loc, atomic, hasMaker, makerAS, maker, comms, others) = false → K 2 := fun hb => of_eq h (by rw [hb]; rfl)
  unfold attr_Check_q
  simp only [attrsOk, Attrs.origin, Attrs.path, Attrs.next, Attrs.hasMaker, Attrs.makerAS, Attrs.comms, Attrs.others] at *
  refine IfB.intro (fun h1 => bad ?_) (fun h1 => IfB.intro (fun h2 => bad ?_) (fun h2 => ?_))
  · have : ¬ 0 ≤ origin := by simp at h1; omega
    simp [this]
  · have : ¬ origin ≤ 2 := by simp at h2; omega
    simp [this]
  have h1 : 0 ≤ origin := by simp at h1; omega
  have h2 : origin ≤ 2 := by simp at h2; omega
  intro _
  refine path_Check_c path _ hl hc fun _ => ?_
  dsimp only [attr_Check_j0]
  rw [errIf_ne]
  refine IfB.intro (fun h3 => bad ?_) (fun h3 _ => ?_)
  · have : pathOk path = false := by simpa using h3
    simp [this]
  have h3 : pathOk path = true := by simpa using h3
  refine attr_hop_c _ _ fun _ => ?_
  refine IfB.intro (fun h4 => bad ?_) (fun h4 => ?_)
  · have : decide ((nxt.toNat : Int) ≠ 0 ∧ (nxt.toNat : Int) < 3758096384) = false := by simpa only [Bool.not_eq_true', Bool.not_eq_false'] using h4
    simp only [this, Bool.and_false, Bool.false_and]
  have h4 : decide ((nxt.toNat : Int) ≠ 0 ∧ (nxt.toNat : Int) < 3758096384) = true := by simpa only [Bool.not_eq_true', Bool.not_eq_false'] using h4
  have rest : (hasMaker && (makerAS.toNat : Int) == 0) = false → attr_Check_j1 (origin, path, nxt, hasMed, med, hasLocal, loc, atomic, hasMaker, makerAS, maker, comms, others) false K := fun h5 => by
    dsimp only [attr_Check_j1, attr_Check_j2]
    refine ifF rfl (IfB.intro (fun h6 => bad ?_) (fun h6 _ => attr_others_c others _ ho fun _ => ?_))
    · have : ¬ comms.length ≤ 32 := by simp at h6; omega
      simp [this]
    · have h6 : comms.length ≤ 32 := by simp at h6; omega
      refine of_eq (next := fun b => IfB (!b) (K 2) (K 0)) ?_ rfl
      refine IfB.intro (fun h7 => bad ?_) (fun h7 => of_eq h ?_)
      · have h7 : (othersOk (-1) others && decide (others.length ≤ 8)) = false := by simpa only [Bool.not_eq_true', Bool.not_eq_false'] using h7
        rw [h7, Bool.and_false]
      · have h7 : (othersOk (-1) others && decide (others.length ≤ 8)) = true := by simpa only [Bool.not_eq_true', Bool.not_eq_false'] using h7
        rw [h7, h3, h4, h5, decide_eq_true h1, decide_eq_true h2, decide_eq_true h6]; rfl
  refine IfB.intro (fun h5 => ?_) (fun h5 => rest ?_)
  · cases h6 : ((makerAS.toNat : Int) == 0) with
    | true =>
      dsimp only [attr_Check_j1]
      refine ifT rfl (bad ?_)
      have : (hasMaker && (makerAS.toNat : Int) == 0) = true := by rw [h6, Bool.and_true]; exact h5
      simp only [this, Bool.not_true, Bool.and_false, Bool.false_and]
    | false => exact rest (by rw [h6, Bool.and_false])
  · have h5 : hasMaker = false := h5
    rw [h5, Bool.false_and]
end Go.Proofs.YtboagabgpcghcaaDoor
namespace Go.Proofs.YtboagabgpcghcaaDoor
open Go.Sh
theorem grow_c (n : Int) (K : List UInt8 → Prop) (h0 : 0 ≤ n) (hn : n ≤ 1000000000) (h : K []) : slices_Growasl_byte_byte_at_nil_q n K := by
  unfold slices_Growasl_byte_byte_at_nil_q
  have e : IntKind.wrap .i64 (n - IntKind.wrap .i64 (0 - 0)) = n := by
    rw [wr_i64 (n := 0 - 0) (by omega) (by omega)]
    exact wr_i64 (by omega) (by omega) |>.trans (by omega)
  rw [e]
  refine ifF (decide_eq_false (by omega)) (IfB.intro (fun h1 => ?_) (fun _ => h))
  have h1 : 0 < n := by simpa using h1
  exact ⟨by omega, by omega, h1, hn, by omega, by omega, by simpa using h⟩
theorem sum_pre {pre post : List (List UInt8)} {x : List UInt8} : (pre ++ x :: post).flatten.length = pre.flatten.length + x.length + post.flatten.length := by simp; omega
theorem concat_c (l : List (List UInt8)) (K : List UInt8 → Prop) (hl : l.length ≤ 1000000000) (hf : l.flatten.length ≤ 1000000000) (h : K l.flatten) : slices_Concatasl_byte_byte_q l K := by
  unfold slices_Concatasl_byte_byte_q
  refine LoopJ.over l (fun pre => ((pre.flatten.length : Int), (pre.length : Int), ())) (fun _ => True) rfl trivial (fun pre x post hp hn _ next hx => ?_) (fun _ next _ => ?_)
  · intro _
    dsimp only [slices_Concatasl_byte_byte_l3]
    have hs := sum_pre (pre := pre) (x := x) (post := post)
    rw [← hp] at hs
    refine ifT (decide_eq_true (by omega)) ⟨by omega, AtN.of (at_pre hp) fun _ => ?_⟩
    rw [wr_i64 (n := (pre.flatten.length : Int) + x.length) (by omega) (by omega)]
    refine ifF (decide_eq_false (by omega)) (of_eq (hx trivial) ?_)
    rw [wr_i64 (by omega) (by omega)]
    simp
  · dsimp only [slices_Concatasl_byte_byte_l3]
    refine ifF (decide_eq_false (by omega)) fun _ => grow_c _ _ (by omega) (by omega) fun _ => ?_
    refine LoopJ.over l (fun pre => (pre.flatten, (pre.length : Int), ())) (fun _ => True) rfl trivial (fun pre x post hp hn _ next hx => ?_) (fun _ next _ => ?_)
    · intro _
      dsimp only [slices_Concatasl_byte_byte_l11]
      have hs := sum_pre (pre := pre) (x := x) (post := post)
      rw [← hp] at hs
      refine ifT (decide_eq_true (by omega)) ⟨by omega, AtN.of (at_pre hp) fun _ => ⟨by omega, of_eq (hx trivial) ?_⟩⟩
      rw [wr_i64 (by omega) (by omega)]
      simp
    · dsimp only [slices_Concatasl_byte_byte_l11]
      exact ifF (decide_eq_false (by omega)) h
def attB (fl kind : Int) (data : List UInt8) : List UInt8 :=
  (if 255 < data.length then [ofI .u8 (fl + 16), ofI .u8 (IntKind.wrap .u8 kind), UInt8.ofNat (data.length / 256), UInt8.ofNat data.length] else [ofI .u8 fl, ofI .u8 (IntKind.wrap .u8 kind), UInt8.ofNat data.length]) ++ data
theorem attB_len (fl kind : Int) (data : List UInt8) : (attB fl kind data).length ≤ data.length + 4 := by
  unfold attB; split <;> simp
def okFl (fl : Int) : Prop := fl = 64 ∨ fl = 128 ∨ fl = 192 ∨ fl = 224
theorem or_16 {fl : Int} (h : okFl fl) : bitsOr .u8 fl 16 = fl + 16 := by
  rcases h with rfl | rfl | rfl | rfl <;> decide
theorem put_c (c : List UInt8) (fl kind : Int) (parts : List (List UInt8)) (K : List UInt8 → Prop) (hf : okFl fl) (hp : parts.length ≤ 1000) (hl : parts.flatten.length ≤ 100000) (hc : c.length ≤ 100000) (h : K (c ++ attB fl kind parts.flatten)) : attr_writer_put_q c fl kind parts K := by
  unfold attr_writer_put_q
  intro _
  refine concat_c parts _ (by omega) (by omega) fun _ => ?_
  rw [or_16 hf]
  refine IfB.intro (fun h1 => ?_) (fun h1 => ?_)
  · have h1 : 255 < parts.flatten.length := by simp only [decide_eq_true_eq] at h1; omega
    refine ⟨by decide, by simp only [List.length_cons, List.length_nil]; omega, ?_⟩
    refine ⟨by simp only [List.length_append, List.length_cons, List.length_nil]; omega, of_eq h ?_⟩
    rw [fdiv_1, of8w, of8w, attB, if_pos h1, List.append_assoc]
  · have h1 : ¬ 255 < parts.flatten.length := by simp only [decide_eq_false_iff_not] at h1; omega
    refine ⟨by simp only [List.length_cons, List.length_nil]; omega, ?_⟩
    refine ⟨by simp only [List.length_append, List.length_cons, List.length_nil]; omega, of_eq h ?_⟩
    rw [of8w, attB, if_neg h1, List.append_assoc]
theorem usual_c (c : List UInt8) (kind : Int) (parts : List (List UInt8)) (K : List UInt8 → Prop) (hf : okFl (flagOf kind)) (hp : parts.length ≤ 1000) (hl : parts.flatten.length ≤ 100000) (hc : c.length ≤ 100000) (h : K (c ++ attB (flagOf kind) kind parts.flatten)) : attr_writer_usual_q c kind parts K := by
  unfold attr_writer_usual_q
  intro _
  exact attr_known_c kind _ fun _ _ _ => put_c c _ kind parts _ hf hp hl hc fun _ _ => h
theorem num_c (n : Nat) (K : List UInt8 → Prop) (h : K (be4 n)) : attr_num_q (n : Int) K := by
  unfold attr_num_q
  refine ⟨by decide, by decide, by decide, of_eq h ?_⟩
  rw [fdiv_1, fdiv_2, fdiv_3, of8w, of8w, of8w, of8w]; rfl
theorem system_c (x : UInt32) (four : Bool) (K : List UInt8 → Prop) (h : K (encAS four x)) : attr_system_q (x.toNat : Int) four K := by
  unfold attr_system_q
  refine IfB.intro (fun h1 _ => num_c _ _ fun _ => of_eq h ?_) (fun h1 => IfB.intro (fun h2 => ?_) (fun h2 => ?_))
  · rw [h1]; rfl
  · have h2 : x.toNat > 65535 := by simp only [decide_eq_true_eq] at h2; omega
    dsimp only [attr_system_j0]
    exact fun _ => num_c 23456 _ fun _ => ⟨by decide, by decide, of_eq h (by simp [encAS, h1, h2, be2, be4])⟩
  · have h2 : ¬ x.toNat > 65535 := by simp only [decide_eq_false_iff_not] at h2; omega
    dsimp only [attr_system_j0]
    exact fun _ => num_c _ _ fun _ => ⟨by decide, by simp only [be4_length]; decide, of_eq h (by simp [encAS, h1, h2, be2, be4])⟩
def perhB (four : Bool) (a : Attrs) : List UInt8 :=
  (if a.hasMed then attB 128 4 (be4 a.med.toNat) else []) ++ ((if a.atomic then attB 64 6 [] else []) ++ ((if a.hasMaker then attB 192 7 (encAS four a.makerAS ++ be4 a.maker.toNat) else []) ++ if 0 < a.comms.length then attB 192 8 (a.comms.flatMap fun x => be4 x.toNat) else []))
theorem be4s_len : ∀ l : List UInt32, (l.flatMap fun x => be4 x.toNat).length = 4 * l.length
  | [] => rfl
  | x :: l => by simp only [List.flatMap_cons, List.length_append, List.length_cons, be4s_len l, be4_length]; omega
theorem perhB_len (four : Bool) (a : Attrs) : (perhB four a).length ≤ 4 * a.comms.length + 100 := by
  unfold perhB
  have h1 := attB_len 128 4 (be4 a.med.toNat)
  have h2 := attB_len 64 6 []
  have h3 := attB_len 192 7 (encAS four a.makerAS ++ be4 a.maker.toNat)
  have h4 := attB_len 192 8 (a.comms.flatMap fun x => be4 x.toNat)
  have h5 := encAS_len four a.makerAS
  rw [be4s_len] at h4
  simp only [List.length_append, be4_length, List.length_nil] at *
  split <;> split <;> split <;> split <;> (try simp only [List.length_nil]) <;> omega
theorem perhaps_c (c : List UInt8) (a : Attrs) (four : Bool) (K : List UInt8 → Prop) (hc : c.length ≤ 10000) (hm : a.comms.length ≤ 100) (h : K (c ++ perhB four a)) : attr_writer_perhaps_q c a four K := by
  obtain ⟨origin, path, nxt, hasMed, med, hasLocal, loc, atomic, hasMaker, makerAS, maker, comms, others⟩ := a
  simp only [perhB, Attrs.hasMed, Attrs.med, Attrs.atomic, Attrs.hasMaker, Attrs.makerAS, Attrs.maker, Attrs.comms] at *
  have s3 : ∀ (c : List UInt8), c.length ≤ 20000 → K (c ++ if 0 < comms.length then attB 192 8 (comms.flatMap fun x => be4 x.toNat) else []) → attr_writer_perhaps_j2 (origin, path, nxt, hasMed, med, hasLocal, loc, atomic, hasMaker, makerAS, maker, comms, others) c K := fun c hc h => by
    dsimp only [attr_writer_perhaps_j2]
    refine IfB.intro (fun h1 => ?_) (fun h1 => of_eq h ?_)
    · have h1 : 0 < comms.length := by simpa using h1
      rw [if_pos h1] at h
      refine LoopJ.over comms (fun pre => (pre.map fun x => be4 x.toNat, (pre.length : Int), ())) (fun _ => True) rfl trivial (fun pre x post hp hn _ next hx => ?_) (fun _ next _ => ?_)
      · intro _
        dsimp only [attr_writer_perhaps_l10]
        refine ifT (decide_eq_true (by omega)) ⟨by omega, AtN.of (at_pre hp) fun _ _ => num_c _ _ fun _ => ⟨by simp only [List.length_map, List.length_cons, List.length_nil]; omega, of_eq (hx trivial) ?_⟩⟩
        rw [wr_i64 (by omega) (by omega)]
        simp
      · dsimp only [attr_writer_perhaps_l10]
        have e : (comms.map fun x => be4 x.toNat).flatten = comms.flatMap fun x => be4 x.toNat := by simp [List.flatMap]
        have hfl := be4s_len comms
        refine ifF (decide_eq_false (by omega)) fun _ _ => usual_c c 8 _ _ (.inr (.inr (.inl rfl))) (by simp; omega) (by rw [e]; omega) (by omega) fun _ _ => of_eq h ?_
        rw [e]; rfl
    · have h1 : ¬ 0 < comms.length := by simp at h1; simp [h1]
      rw [if_neg h1, List.append_nil]
  have s2 : ∀ (c : List UInt8), c.length ≤ 15000 → K (c ++ ((if hasMaker then attB 192 7 (encAS four makerAS ++ be4 maker.toNat) else []) ++ if 0 < comms.length then attB 192 8 (comms.flatMap fun x => be4 x.toNat) else [])) → attr_writer_perhaps_j1 four (origin, path, nxt, hasMed, med, hasLocal, loc, atomic, hasMaker, makerAS, maker, comms, others) c K := fun c hc h => by
    dsimp only [attr_writer_perhaps_j1]
    have hl := encAS_len four makerAS
    have hb := attB_len 192 7 (encAS four makerAS ++ be4 maker.toNat)
    simp only [List.length_append, be4_length] at hb
    refine IfB.intro (fun h1 _ => system_c _ _ _ fun _ _ => num_c _ _ fun _ _ _ => usual_c c 7 _ _ (.inr (.inr (.inl rfl))) (by simp) ?_ (by omega) fun _ _ => s3 _ ?_ (of_eq h ?_)) (fun h1 => s3 _ (by omega) (of_eq h ?_))
    · simp only [List.flatten_cons, List.flatten_nil, List.append_nil, List.length_append, be4_length]; omega
    · simp only [List.flatten_cons, List.flatten_nil, List.append_nil, List.length_append]
      have : flagOf 7 = 192 := rfl
      rw [this]; omega
    · rw [if_pos h1, ← List.append_assoc]; simp only [List.flatten_cons, List.flatten_nil, List.append_nil]; rfl
    · rw [h1]; simp
  have s1 : ∀ (c : List UInt8), c.length ≤ 12000 → K (c ++ ((if atomic then attB 64 6 [] else []) ++ ((if hasMaker then attB 192 7 (encAS four makerAS ++ be4 maker.toNat) else []) ++ if 0 < comms.length then attB 192 8 (comms.flatMap fun x => be4 x.toNat) else []))) → attr_writer_perhaps_j0 four (origin, path, nxt, hasMed, med, hasLocal, loc, atomic, hasMaker, makerAS, maker, comms, others) c K := fun c hc h => by
    dsimp only [attr_writer_perhaps_j0]
    have hb := attB_len 64 6 []
    simp only [List.length_nil] at hb
    refine IfB.intro (fun h1 _ _ => usual_c c 6 _ _ (.inl rfl) (by decide) (by decide) (by omega) fun _ _ => s2 _ ?_ (of_eq h ?_)) (fun h1 => s2 _ (by omega) (of_eq h ?_))
    · have : flagOf 6 = 64 := rfl
      rw [this]; simp only [List.length_append, List.flatten_nil]; omega
    · rw [if_pos h1, ← List.append_assoc]; rfl
    · rw [h1]; simp
  dsimp only [attr_writer_perhaps_q]
  have hb := attB_len 128 4 (be4 med.toNat)
  simp only [be4_length] at hb
  refine IfB.intro (fun h1 _ => num_c _ _ fun _ _ _ => usual_c c 4 _ _ (.inr (.inl rfl)) (by simp) ?_ (by omega) fun _ _ => s1 _ ?_ (of_eq h ?_)) (fun h1 => s1 _ (by omega) (of_eq h ?_))
  · simp [be4_length]
  · simp only [List.flatten_cons, List.flatten_nil, List.append_nil, List.length_append]
    have : flagOf 4 = 128 := rfl
    rw [this]; omega
  · rw [if_pos h1, ← List.append_assoc]; simp only [List.flatten_cons, List.flatten_nil, List.append_nil]; rfl
  · rw [h1]; simp
end Go.Proofs.YtboagabgpcghcaaDoor
namespace Go.Proofs.YtboagabgpcghcaaDoor
open Go.Sh
def bigAS (x : UInt32) : Bool := decide (65535 < x.toNat)
def greatP (p : List Seg) : Bool := p.any fun s => s.2.any bigAS
theorem big_eq (x : UInt32) : decide ((x.toNat : Int) > 65535) = bigAS x := by
  unfold bigAS
  congr 1
  apply propext
  omega
theorem idx1_c (l : List UInt32) (K : Int → Prop) (hl : l.length ≤ 9223372036854775807) (h1 : ∀ i : Nat, l.any bigAS = true → K i) (h2 : l.any bigAS = false → K (-1)) : slices_IndexFuncasl_uint32_uint32_at_attr_great_1_1_q l K := by
  unfold slices_IndexFuncasl_uint32_uint32_at_attr_great_1_1_q
  refine LoopJ.over l (fun pre => ((pre.length : Int), ())) (fun pre => pre.any bigAS = false) rfl rfl (fun pre x post hp hn hP next hx => ?_) (fun hP next _ => ?_)
  · intro _
    dsimp only [slices_IndexFuncasl_uint32_uint32_at_attr_great_1_1_l2, attr_great_1_1_q]
    refine ifT (decide_eq_true (by omega)) ⟨by omega, AtN.of (at_pre hp) fun _ _ _ => ?_⟩
    rw [big_eq]
    refine IfB.intro (fun h => h1 _ ?_) (fun h => of_eq (hx ?_) ?_)
    · rw [hp]; simp [h]
    · rw [List.any_append, hP]; simp [h]
    · rw [wr_i64 (by omega) (by omega)]; simp
  · dsimp only [slices_IndexFuncasl_uint32_uint32_at_attr_great_1_1_l2]
    exact ifF (decide_eq_false (by omega)) (h2 hP)
theorem great1_c (s : Seg) (K : Bool → Prop) (hl : s.2.length ≤ 9223372036854775807) (h : K (s.2.any bigAS)) : attr_great_1_q s K := by
  unfold attr_great_1_q
  intro _
  unfold slices_ContainsFuncasl_uint32_uint32_at_attr_great_1_1_q
  intro _
  refine idx1_c s.2 _ hl (fun i hi _ _ => of_eq h ?_) (fun hi _ _ => of_eq h ?_)
  · rw [hi, decide_eq_true (by omega)]
  · rw [hi]; rfl
theorem idx2_c (l : List Seg) (K : Int → Prop) (hl : l.length ≤ 9223372036854775807) (hs : ∀ s ∈ l, s.2.length ≤ 9223372036854775807) (h1 : ∀ i : Nat, greatP l = true → K i) (h2 : greatP l = false → K (-1)) : slices_IndexFuncasl_api_Segment_api_Segment_at_attr_great_1_q l K := by
  unfold slices_IndexFuncasl_api_Segment_api_Segment_at_attr_great_1_q
  refine LoopJ.over l (fun pre => ((pre.length : Int), ())) (fun pre => greatP pre = false) rfl rfl (fun pre x post hp hn hP next hx => ?_) (fun hP next _ => ?_)
  · intro _
    dsimp only [slices_IndexFuncasl_api_Segment_api_Segment_at_attr_great_1_l2]
    refine ifT (decide_eq_true (by omega)) ⟨by omega, AtN.of (at_pre hp) fun _ _ => great1_c x _ (hs x (by simp [hp])) fun _ => ?_⟩
    refine IfB.intro (fun h => h1 _ ?_) (fun h => of_eq (hx ?_) ?_)
    · rw [hp]; simp only [greatP, List.any_append, List.any_cons, h, Bool.true_or, Bool.or_true]
    · simp only [greatP] at hP
      simp only [greatP, List.any_append, hP, List.any_cons, h, List.any_nil, Bool.or_false]
    · rw [wr_i64 (by omega) (by omega)]; simp
  · dsimp only [slices_IndexFuncasl_api_Segment_api_Segment_at_attr_great_1_l2]
    exact ifF (decide_eq_false (by omega)) (h2 hP)
theorem great_c (p : List Seg) (K : Bool → Prop) (hl : p.length ≤ 9223372036854775807) (hs : ∀ s ∈ p, s.2.length ≤ 9223372036854775807) (h : K (greatP p)) : attr_great_q p K := by
  unfold attr_great_q
  intro _
  unfold slices_ContainsFuncasl_api_Segment_api_Segment_at_attr_great_1_q
  intro _
  refine idx2_c p _ hl hs (fun i hi _ _ => of_eq h ?_) (fun hi _ _ => of_eq h ?_)
  · rw [hi, decide_eq_true (by omega)]
  · rw [hi]; rfl
def headB (four : Bool) (a : Attrs) : List UInt8 := attB 64 1 [ofI .u8 (IntKind.wrap .u8 a.origin)] ++ (attB 64 2 (encPath four a.path) ++ attB 64 3 (be4 a.next.toNat))
def oldB (four : Bool) (a : Attrs) : List UInt8 :=
  (if !four && greatP a.path then attB 192 17 (encPath true a.path) else []) ++ if !four && (a.hasMaker && bigAS a.makerAS) then attB 192 18 (be4 a.makerAS.toNat ++ be4 a.maker.toNat) else []
def othersB (l : List Raw) : List UInt8 := l.flatMap fun x => attB 224 x.1 x.2
def attrsB (four : Bool) (a : Attrs) : List UInt8 := headB four a ++ (perhB four a ++ (oldB four a ++ othersB a.others))
theorem path_short {four : Bool} {p : List Seg} (hok : pathOk p = true) : (encPath four p).length ≤ 1000 := by
  simp only [pathOk, Bool.and_eq_true, decide_eq_true_eq] at hok
  have h1 := parts_len p hok.1
  have h2 := encPath_len four p
  omega
theorem headB_len {four : Bool} {a : Attrs} (h : pathOk a.path = true) : (headB four a).length ≤ 1100 := by
  unfold headB
  have h1 := attB_len 64 1 [ofI .u8 (IntKind.wrap .u8 a.origin)]
  have h2 := attB_len 64 2 (encPath four a.path)
  have h3 := attB_len 64 3 (be4 a.next.toNat)
  have h4 := path_short (four := four) h
  simp only [List.length_append, be4_length, List.length_cons, List.length_nil] at *
  omega
theorem othersB_len : ∀ (l : List Raw) (last : Int), othersOk last l = true → (othersB l).length ≤ 259 * l.length
  | [], _, _ => by simp [othersB]
  | x :: l, last, h => by
    simp only [othersOk, Bool.and_eq_true, decide_eq_true_eq] at h
    have h1 := othersB_len l x.1 h.2
    have h2 := attB_len 224 x.1 x.2
    have h3 : (othersB (x :: l)).length = (attB 224 x.1 x.2).length + (othersB l).length := by simp [othersB]
    have h4 := h.1.2
    simp only [List.length_cons]
    omega
theorem attr_Put_c (a : Attrs) (four : Bool) (K : List UInt8 → Int → Prop) (hl : a.path.length ≤ 9223372036854775807) (hc : cnt a.path ≤ 9223372036854775807) (hs : ∀ s ∈ a.path, s.2.length ≤ 9223372036854775807) (ho : a.others.length ≤ 9223372036854775807)
    (h : K (if attrsOk a then attrsB four a else []) (errIf (attrsOk a))) : attr_Put_q a four K := by
  unfold attr_Put_q
  simp only [ofI_u32]
  intro _
  refine attr_Check_c a _ hl hc ho fun _ => ?_
  rw [errIf_ne]
  refine IfB.intro (fun h1 => ?_) (fun h1 _ => path_Put_c a.path four _ hl hc fun _ _ => ?_)
  · have h1 : attrsOk a = false := by simpa using h1
    rw [h1] at h ⊢
    exact h
  have h1 : attrsOk a = true := by simpa using h1
  rw [h1] at h
  have hok := h1
  simp only [attrsOk, Bool.and_eq_true, decide_eq_true_eq, Bool.not_eq_true'] at hok
  obtain ⟨⟨⟨⟨⟨⟨_, _⟩, hpok⟩, _⟩, _⟩, hcm⟩, hoth, hol⟩ := hok
  rw [if_pos hpok]
  have hps := path_short (four := four) hpok
  have hpt := path_short (four := true) hpok
  have s4 : ∀ c : List UInt8, c.length ≤ 20000 → K (c ++ othersB a.others) 0 → attr_Put_j3 a c K := fun c hc h => by
    dsimp only [attr_Put_j3, attr_Put_j4]
    refine LoopJ.over a.others (fun pre => ((pre.length : Int), c ++ othersB pre, ())) (fun _ => True) (by simp [othersB]) trivial (fun pre x post hp hn _ next hx => ?_) (fun _ next _ => ?_)
    · intro _
      dsimp only [attr_Put_l16]
      have hpre : othersOk (-1) pre = true ∧ othersOk (lastOf (-1) pre) (x :: post) = true := by
        have := hoth
        rw [hp, othersOk_app, Bool.and_eq_true] at this
        exact this
      have hb := othersB_len pre _ hpre.1
      have hx2 : x.2.length ≤ 255 := by
        have := hpre.2
        simp only [othersOk, Bool.and_eq_true, decide_eq_true_eq] at this
        exact this.1.2
      refine ifT (decide_eq_true (show (pre.length : Int) < (a.others.length : Int) by omega)) ⟨by omega, AtN.of (at_pre hp) fun _ _ _ => ?_⟩
      refine put_c _ 224 x.1 [x.2] _ (.inr (.inr (.inr rfl))) (by simp) (by simp; omega) (by simp only [List.length_append]; omega) fun _ _ => of_eq (hx trivial) ?_
      rw [wr_i64 (by omega) (by omega)]
      simp [othersB]
    · dsimp only [attr_Put_l16]
      exact ifF (decide_eq_false (show ¬ (a.others.length : Int) < (a.others.length : Int) by omega)) h
  have s3 : ∀ (c : List UInt8) (b : Bool), c.length ≤ 10000 → K (c ++ ((if b then attB 192 18 (be4 a.makerAS.toNat ++ be4 a.maker.toNat) else []) ++ othersB a.others)) 0 → attr_Put_j2 a c b K := fun c b hc h => by
    dsimp only [attr_Put_j2]
    have hb := attB_len 192 18 (be4 a.makerAS.toNat ++ be4 a.maker.toNat)
    simp only [List.length_append, be4_length] at hb
    refine IfB.intro (fun h1 _ => num_c _ _ fun _ _ => num_c _ _ fun _ _ _ => usual_c c 18 _ _ (.inr (.inr (.inl rfl))) (by simp) ?_ (by omega) fun _ _ => s4 _ ?_ (of_eq2 h ?_)) (fun h1 => s4 _ (by omega) (of_eq2 h ?_))
    · simp only [List.flatten_cons, List.flatten_nil, List.append_nil, List.length_append, be4_length]; omega
    · simp only [List.flatten_cons, List.flatten_nil, List.append_nil, List.length_append]
      have : flagOf 18 = 192 := rfl
      rw [this]; (dsimp only [Attrs.origin, Attrs.path, Attrs.next, Attrs.hasMed, Attrs.med, Attrs.hasLocal, Attrs.loc, Attrs.atomic, Attrs.hasMaker, Attrs.makerAS, Attrs.maker, Attrs.comms, Attrs.others] at *; omega)
    · rw [if_pos h1, ← List.append_assoc]; simp only [List.flatten_cons, List.flatten_nil, List.append_nil]; rfl
    · rw [h1]; simp
  have s2 : ∀ (c : List UInt8), c.length ≤ 9000 → K (c ++ ((if !four && (a.hasMaker && bigAS a.makerAS) then attB 192 18 (be4 a.makerAS.toNat ++ be4 a.maker.toNat) else []) ++ othersB a.others)) 0 → attr_Put_j1 four a c K := fun c hc h => by
    dsimp only [attr_Put_j1]
    rw [big_eq]
    refine IfB.intro (fun h1 => IfB.intro (fun h2 => s3 _ _ (by omega) (of_eq2 h ?_)) (fun h2 => s3 _ _ (by omega) (of_eq2 h ?_))) (fun h1 => s3 _ _ (by omega) (of_eq2 h ?_))
    · have h2 : a.hasMaker = true := h2
      rw [h1, h2]; rfl
    · have h2 : a.hasMaker = false := h2
      rw [h1, h2]; rfl
    · rw [h1]; rfl
  have s1 : ∀ (c : List UInt8) (b : Bool), c.length ≤ 5000 → K (c ++ ((if b then attB 192 17 (encPath true a.path) else []) ++ ((if !four && (a.hasMaker && bigAS a.makerAS) then attB 192 18 (be4 a.makerAS.toNat ++ be4 a.maker.toNat) else []) ++ othersB a.others))) 0 → attr_Put_j0 four a c b K := fun c b hc' h => by
    dsimp only [attr_Put_j0]
    have hb := attB_len 192 17 (encPath true a.path)
    refine IfB.intro (fun h1 _ => path_Put_c a.path true _ hl hc fun _ _ _ => usual_c c 17 _ _ (.inr (.inr (.inl rfl))) (by simp) ?_ (by omega) fun _ _ => s2 _ ?_ (of_eq2 h ?_)) (fun h1 => s2 _ (by omega) (of_eq2 h ?_))
    · rw [if_pos hpok]; simp only [List.flatten_cons, List.flatten_nil, List.append_nil]; omega
    · rw [if_pos hpok]; simp only [List.flatten_cons, List.flatten_nil, List.append_nil, List.length_append]
      have : flagOf 17 = 192 := rfl
      rw [this]; (dsimp only [Attrs.origin, Attrs.path, Attrs.next, Attrs.hasMed, Attrs.med, Attrs.hasLocal, Attrs.loc, Attrs.atomic, Attrs.hasMaker, Attrs.makerAS, Attrs.maker, Attrs.comms, Attrs.others] at *; omega)
    · rw [if_pos h1, if_pos hpok, ← List.append_assoc]; simp only [List.flatten_cons, List.flatten_nil, List.append_nil]; rfl
    · rw [h1]; simp
  have hh := headB_len (four := four) hpok
  have hhd : headB four a = attB 64 1 [ofI .u8 (IntKind.wrap .u8 a.origin)] ++ (attB 64 2 (encPath four a.path) ++ attB 64 3 (be4 a.next.toNat)) := rfl
  have hhl : (headB four a).length = (attB 64 1 [ofI .u8 (IntKind.wrap .u8 a.origin)]).length + ((attB 64 2 (encPath four a.path)).length + (attB 64 3 (be4 a.next.toNat)).length) := by rw [hhd]; simp only [List.length_append]
  have hp := perhB_len four a
  have f1 : flagOf 1 = 64 := rfl
  have f2 : flagOf 2 = 64 := rfl
  have f3 : flagOf 3 = 64 := rfl
  have e1 : ∀ x : List UInt8, [x].flatten = x := fun x => by simp
  refine fun _ => usual_c [] 1 _ _ (.inl rfl) (by simp) (by simp) (by simp) fun _ _ _ => ?_
  rw [e1, f1, List.nil_append]
  refine fun _ => usual_c _ 2 _ _ (.inl rfl) (by simp) (by rw [e1]; (dsimp only [Attrs.origin, Attrs.path, Attrs.next, Attrs.hasMed, Attrs.med, Attrs.hasLocal, Attrs.loc, Attrs.atomic, Attrs.hasMaker, Attrs.makerAS, Attrs.maker, Attrs.comms, Attrs.others] at *; omega)) (by (dsimp only [Attrs.origin, Attrs.path, Attrs.next, Attrs.hasMed, Attrs.med, Attrs.hasLocal, Attrs.loc, Attrs.atomic, Attrs.hasMaker, Attrs.makerAS, Attrs.maker, Attrs.comms, Attrs.others] at *; omega)) fun _ _ _ => ?_
  rw [e1, f2]
  refine num_c _ _ fun _ _ _ => usual_c _ 3 _ _ (.inl rfl) (by simp) (by rw [e1, be4_length]; decide) (by simp only [List.length_append]; (dsimp only [Attrs.origin, Attrs.path, Attrs.next, Attrs.hasMed, Attrs.med, Attrs.hasLocal, Attrs.loc, Attrs.atomic, Attrs.hasMaker, Attrs.makerAS, Attrs.maker, Attrs.comms, Attrs.others] at *; omega)) fun _ _ => ?_
  rw [e1, f3, List.append_assoc]
  rw [← hhd]
  refine fun _ _ => perhaps_c _ a four _ (by (dsimp only [Attrs.origin, Attrs.path, Attrs.next, Attrs.hasMed, Attrs.med, Attrs.hasLocal, Attrs.loc, Attrs.atomic, Attrs.hasMaker, Attrs.makerAS, Attrs.maker, Attrs.comms, Attrs.others] at *; omega)) (by (dsimp only [Attrs.origin, Attrs.path, Attrs.next, Attrs.hasMed, Attrs.med, Attrs.hasLocal, Attrs.loc, Attrs.atomic, Attrs.hasMaker, Attrs.makerAS, Attrs.maker, Attrs.comms, Attrs.others] at *; omega)) fun _ _ => ?_
  have hfin : K ((headB four a ++ perhB four a) ++ ((if !four && greatP a.path then attB 192 17 (encPath true a.path) else []) ++ ((if !four && (a.hasMaker && bigAS a.makerAS) then attB 192 18 (be4 a.makerAS.toNat ++ be4 a.maker.toNat) else []) ++ othersB a.others))) 0 := by
    have e : attrsB four a = (headB four a ++ perhB four a) ++ ((if !four && greatP a.path then attB 192 17 (encPath true a.path) else []) ++ ((if !four && (a.hasMaker && bigAS a.makerAS) then attB 192 18 (be4 a.makerAS.toNat ++ be4 a.maker.toNat) else []) ++ othersB a.others)) := by
      unfold attrsB oldB
      simp only [List.append_assoc]
    rw [← e]
    exact h
  refine IfB.intro (fun h1 _ => great_c a.path _ hl hs fun _ => s1 _ _ (by simp only [List.length_append]; (dsimp only [Attrs.origin, Attrs.path, Attrs.next, Attrs.hasMed, Attrs.med, Attrs.hasLocal, Attrs.loc, Attrs.atomic, Attrs.hasMaker, Attrs.makerAS, Attrs.maker, Attrs.comms, Attrs.others] at *; omega)) (of_eq2 hfin ?_)) (fun h1 => s1 _ _ (by simp only [List.length_append]; (dsimp only [Attrs.origin, Attrs.path, Attrs.next, Attrs.hasMed, Attrs.med, Attrs.hasLocal, Attrs.loc, Attrs.atomic, Attrs.hasMaker, Attrs.makerAS, Attrs.maker, Attrs.comms, Attrs.others] at *; omega)) (of_eq2 hfin ?_))
  · rw [h1]; rfl
  · rw [h1]; rfl
end Go.Proofs.YtboagabgpcghcaaDoor
namespace Go.Proofs.YtboagabgpcghcaaDoor
open Go.Sh
end Go.Proofs.YtboagabgpcghcaaDoor
set_option linter.unusedVariables false
set_option linter.unusedSimpArgs false
namespace Go.Proofs.YtboagabgpcghcaaDoor
open Go.Sh
abbrev Pf := UInt32 × Int
def rightP (p : Pf) : Bool := right p.1.toNat p.2
def octs (n : Int) : Nat := (n.toNat + 7) / 8
def prefB (p : Pf) : List UInt8 := ofI .u8 (IntKind.wrap .u8 p.2) :: (be4 p.1.toNat).take (octs p.2)
def putsB (l : List Pf) : List UInt8 := l.flatMap prefB
theorem rightP_len {p : Pf} (h : rightP p = true) : 0 ≤ p.2 ∧ p.2 ≤ 32 := by
  have := right_iff.1 h
  exact ⟨this.1, this.2.1⟩
theorem octs_le {p : Pf} (h : rightP p = true) : octs p.2 ≤ 4 := by
  have := rightP_len h
  unfold octs; omega
theorem prefB_le (p : Pf) : (prefB p).length ≤ 5 := by
  unfold prefB
  rw [List.length_cons, List.length_take, be4_length]
  omega
theorem putsB_le : ∀ l : List Pf, (putsB l).length ≤ 5 * l.length
  | [] => by simp [putsB]
  | p :: l => by
    have h1 := putsB_le l
    have h2 := prefB_le p
    have e : putsB (p :: l) = prefB p ++ putsB l := rfl
    rw [e, List.length_append, List.length_cons]
    omega
theorem putsB_snoc (l : List Pf) (p : Pf) : putsB (l ++ [p]) = putsB l ++ prefB p := by simp [putsB]
theorem octets_c (p : Pf) (K : Int → Prop) (hp : rightP p = true) (h : K (octs p.2 : Nat)) : upd_octets_q p.2 K := by
  have := rightP_len hp
  unfold upd_octets_q
  refine ⟨by decide, of_eq h ?_⟩
  rw [wr_i64 (n := p.2 + 8) (by omega) (by omega), wr_i64 (n := p.2 + 8 - 1) (by omega) (by omega), Int.tdiv_eq_ediv_of_nonneg (by omega), wr_i64 (by omega) (by omega)]
  unfold octs; omega
theorem be4_step (a i : Nat) (hi : i < 4) (x : UInt8) (h : (be4 a)[i]? = some x) : (be4 a).take (i + 1) = (be4 a).take i ++ [x] := by
  rw [List.take_add_one, h]; rfl
theorem be4_at (a i : Nat) (hi : i < 4) : (be4 a)[i]? = some (UInt8.ofNat (a / 2 ^ (24 - 8 * i))) := by
  match i, hi with
  | 0, _ => rfl
  | 1, _ => rfl
  | 2, _ => rfl
  | 3, _ => simp [be4]
theorem fdiv_pow (a k : Nat) : Int.fdiv (a : Int) (2 ^ k) = ((a / 2 ^ k : Nat) : Int) := by
  rw [Int.fdiv_eq_ediv_of_nonneg _ (Int.le_of_lt (Int.pow_pos (by decide)))]
  norm_cast
theorem upd_put_c (l : List Pf) (K : List UInt8 → Bool → Prop) (hl : l.length ≤ 1000000000) (h : K (if l.all rightP then putsB l else []) (l.all rightP)) : upd_put_q l K := by
  unfold upd_put_q
  refine LoopJ.over l (fun pre => (putsB pre, (pre.length : Int), ())) (fun pre => pre.all rightP = true) rfl rfl (fun pre p post hp hn hP next hx => ?_) (fun hP next _ => ?_)
  · intro _
    dsimp only [upd_put_l3]
    have hb := putsB_le pre
    refine ifT (decide_eq_true (by omega)) ⟨by omega, AtN.of (at_pre hp) fun _ => ?_⟩
    rw [ofI_u32]
    refine fun _ => right_c p.1 p.2 _ fun _ => IfB.intro (fun h1 => ?_) (fun h1 => ?_)
    · have h1' : rightP p = false := by simpa [rightP] using h1
      have e : l.all rightP = false := by rw [hp]; simp [h1']
      rw [e] at h
      exact h
    · have h1' : rightP p = true := by simpa [rightP] using h1
      have ho := octs_le h1'
      refine ⟨by simp; omega, fun _ => octets_c p _ h1' fun _ => ?_⟩
      refine LoopJ.up (octs p.2) (fun i => (putsB pre ++ ofI .u8 (IntKind.wrap .u8 p.2) :: (be4 p.1.toNat).take i, (i : Int), ())) (fun _ => True) (by simp) trivial (fun i hi _ next' hy => ?_) (fun _ next' => ?_)
      · intro _
        dsimp only [upd_put_l9]
        have hw : IntKind.wrap .i64 (24 - IntKind.wrap .i64 (8 * (i : Int))) = ((24 - 8 * i : Nat) : Int) := by
          rw [wr_i64 (n := 8 * (i : Int)) (by omega) (by omega), wr_i64 (by omega) (by omega)]; omega
        have hm : (min ((24 - 8 * i : Nat) : Int).toNat (IntKind.bits .u32)) = 24 - 8 * i := by
          have : IntKind.bits .u32 = 32 := rfl
          rw [Int.toNat_natCast, this]; omega
        have ht : ((be4 p.1.toNat).take i).length ≤ 4 := by rw [List.length_take, be4_length]; omega
        rw [hw, hm]
        refine ifT (decide_eq_true (by omega)) ⟨by omega, by simp; omega, of_eq (hy trivial) ?_⟩
        rw [fdiv_pow, of8w, wr_i64 (by omega) (by omega), be4_step _ i (by omega) _ (be4_at _ i (by omega))]
        simp
      · intro _
        dsimp only [upd_put_l9]
        refine ifF (decide_eq_false (by omega)) (of_eq (hx ?_) ?_)
        · simp [hP, h1']
        · rw [putsB_snoc, wr_i64 (by omega) (by omega)]
          simp [prefB]
  · dsimp only [upd_put_l3]
    refine ifF (decide_eq_false (by omega)) ?_
    rw [hP, if_pos rfl] at h
    exact h
end Go.Proofs.YtboagabgpcghcaaDoor
set_option linter.unusedVariables false
set_option linter.unusedSimpArgs false
namespace Go.Proofs.YtboagabgpcghcaaDoor
open Go.Sh
abbrev Upd := List Pf × List Pf × Int × List Seg × UInt32 × Bool × UInt32 × Bool × UInt32 × Bool × Bool × UInt32 × UInt32 × List UInt32 × List Raw × Int
def updAttrs (u : Upd) : Attrs := (u.2.2.1, u.2.2.2.1, u.2.2.2.2.1, u.2.2.2.2.2.1, u.2.2.2.2.2.2.1, u.2.2.2.2.2.2.2.1, u.2.2.2.2.2.2.2.2.1, u.2.2.2.2.2.2.2.2.2.1, u.2.2.2.2.2.2.2.2.2.2.1, u.2.2.2.2.2.2.2.2.2.2.2.1, u.2.2.2.2.2.2.2.2.2.2.2.2.1, u.2.2.2.2.2.2.2.2.2.2.2.2.2.1, u.2.2.2.2.2.2.2.2.2.2.2.2.2.2.1)
structure FitA (a : Attrs) : Prop where
  p1 : a.path.length ≤ 9223372036854775807
  p2 : cnt a.path ≤ 9223372036854775807
  p3 : ∀ s ∈ a.path, s.2.length ≤ 9223372036854775807
  o1 : a.others.length ≤ 9223372036854775807
def bodyF (w a t : List UInt8) : List UInt8 × Int :=
  if 4073 < w.length + a.length + t.length then ([], 3) else (be2 w.length ++ w ++ (be2 a.length ++ a ++ t), 0)
def updR (u : Upd) (four : Bool) : List UInt8 × Int :=
  if u.1.all rightP && u.2.1.all rightP then
    if 0 < u.2.1.length then (if attrsOk (updAttrs u) then bodyF (putsB u.1) (attrsB four (updAttrs u)) (putsB u.2.1) else ([], 2))
    else bodyF (putsB u.1) [] (putsB u.2.1)
  else ([], 2)
theorem path_le {four : Bool} {p : List Seg} (hok : pathOk p = true) : (encPath four p).length ≤ 384 := by
  simp only [pathOk, Bool.and_eq_true, decide_eq_true_eq] at hok
  have h1 := parts_len p hok.1
  have h2 := encPath_len four p
  omega
theorem attrsB_le {four : Bool} {a : Attrs} (h : attrsOk a = true) : (attrsB four a).length ≤ 3500 := by
  simp only [attrsOk, Bool.and_eq_true, decide_eq_true_eq, Bool.not_eq_true'] at h
  obtain ⟨⟨⟨⟨⟨⟨_, _⟩, hpok⟩, _⟩, _⟩, hcm⟩, hoth, hol⟩ := h
  have hp1 := path_le (four := four) hpok
  have hp2 := path_le (four := true) hpok
  have ho := othersB_len a.others (-1) hoth
  have hp := perhB_len four a
  have a1 := attB_len 64 1 [ofI .u8 (IntKind.wrap .u8 a.origin)]
  have a2 := attB_len 64 2 (encPath four a.path)
  have a3 := attB_len 64 3 (be4 a.next.toNat)
  have a4 := attB_len 192 17 (encPath true a.path)
  have a5 := attB_len 192 18 (be4 a.makerAS.toNat ++ be4 a.maker.toNat)
  unfold attrsB headB oldB
  simp only [List.length_append, be4_length, List.length_cons, List.length_nil] at *
  split <;> split <;> (try simp only [List.length_nil]) <;> omega
theorem not_t {x : Bool} (h : true = !x) : x = false := by cases x <;> simp_all
theorem not_f {x : Bool} (h : false = !x) : x = true := by cases x <;> simp_all
theorem be2_i (n : Nat) : ([ofI .u8 (IntKind.wrap .u8 (Int.fdiv (n : Int) 256)), ofI .u8 (IntKind.wrap .u8 (n : Int))] : List UInt8) = be2 n := by
  rw [fdiv_1, of8w, of8w]; rfl
theorem sized_c (b : List UInt8) (K : List UInt8 → Prop) (hl : b.length ≤ 100000000) (h : K (be2 b.length ++ b)) : upd_sized_q b K := by
  unfold upd_sized_q
  rw [be2_i]
  exact ⟨by decide, fun _ => concat_c _ _ (by simp) (by simp [be2_length]; omega) fun _ => of_eq h (by simp)⟩
theorem upd_j1 (w t a : List UInt8) (K : List UInt8 → Int → Prop) (hw : w.length ≤ 10000000000) (ht : t.length ≤ 10000000000) (ha : a.length ≤ 10000000000) (h : K (bodyF w a t).1 (bodyF w a t).2) : upd_Build_j1 w t a K := by
  unfold upd_Build_j1
  rw [wr_i64 (n := (w.length : Int) + a.length) (by omega) (by omega), wr_i64 (n := (w.length : Int) + a.length + t.length) (by omega) (by omega), wr_i64 (by omega) (by omega)]
  unfold bodyF at h
  refine IfB.intro (fun h1 => ?_) (fun h1 => ?_)
  · have h1 : 4073 < w.length + a.length + t.length := by have := of_decide_eq_true h1; omega
    rw [if_pos h1] at h; exact h
  · have h1 : ¬ 4073 < w.length + a.length + t.length := by have := of_decide_eq_false h1; omega
    rw [if_neg h1] at h
    refine fun _ => sized_c w _ (by omega) fun _ _ => sized_c a _ (by omega) fun _ _ => concat_c _ _ (by simp) (by simp [be2_length]; omega) fun _ => of_eq2 h ?_
    simp
theorem upd_Build_c (u : Upd) (four : Bool) (K : List UInt8 → Int → Prop) (h1 : u.1.length ≤ 1000000000) (h2 : u.2.1.length ≤ 1000000000) (hf : FitA (updAttrs u)) (h : K (updR u four).1 (updR u four).2) : upd_Build_q u four K := by
  unfold upd_Build_q
  have b1 := putsB_le u.1
  have b2 := putsB_le u.2.1
  have key : ∀ j, (j = !(u.1.all rightP && u.2.1.all rightP)) → upd_Build_j0 four u (if u.1.all rightP then putsB u.1 else []) (if u.2.1.all rightP then putsB u.2.1 else []) j K := fun j hj => by
    unfold upd_Build_j0
    simp only [ofI_u32]
    unfold updR at h
    refine IfB.intro (fun h3 => ?_) (fun h3 => ?_)
    · have : (u.1.all rightP && u.2.1.all rightP) = false := not_t (h3 ▸ hj)
      rw [this] at h; exact h
    · have e : (u.1.all rightP && u.2.1.all rightP) = true := not_f (h3 ▸ hj)
      rw [e, if_pos rfl] at h
      obtain ⟨e1, e2⟩ := Bool.and_eq_true_iff.1 e
      rw [e1, e2, if_pos rfl, if_pos rfl]
      refine IfB.intro (fun h4 _ => ?_) (fun h4 => ?_)
      · have h4 : 0 < u.2.1.length := by have := of_decide_eq_true h4; omega
        rw [if_pos h4] at h
        refine attr_Put_c (updAttrs u) four _ hf.p1 hf.p2 hf.p3 hf.o1 fun _ => ?_
        rw [errIf_ne]
        refine IfB.intro (fun h5 => ?_) (fun h5 => ?_)
        · have h5 : attrsOk (updAttrs u) = false := by simpa using h5
          rw [h5] at h ⊢; exact h
        · have h5 : attrsOk (updAttrs u) = true := by simpa using h5
          rw [h5, if_pos rfl] at h ⊢
          have hal := attrsB_le (four := four) h5
          exact upd_j1 _ _ _ K (by omega) (by omega) (by omega) h
      · have h4 : ¬ 0 < u.2.1.length := by have := of_decide_eq_false h4; omega
        rw [if_neg h4] at h
        exact upd_j1 _ _ _ K (by omega) (by omega) (by simp) h
  refine fun _ => upd_put_c _ _ h1 fun _ _ => upd_put_c _ _ h2 fun _ => ?_
  refine IfB.intro (fun h3 => key true ?_) (fun h3 => key _ ?_)
  · have : u.1.all rightP = false := by simpa using h3
    rw [this]; rfl
  · have : u.1.all rightP = true := by simpa using h3
    rw [this]; rfl
end Go.Proofs.YtboagabgpcghcaaDoor
namespace Go.Proofs.YtboagabgpcghcaaDoor
open Go.Sh
end Go.Proofs.YtboagabgpcghcaaDoor
set_option linter.unusedSectionVars false
set_option linter.unusedSimpArgs false
set_option linter.unusedVariables false
namespace Go.Proofs.YtboagabgpcghcaaDoor
open Go.Sh
def pv (l : List (List UInt8)) : Nat := l.foldl (fun a w => a * 256 + val w) 0
end Go.Proofs.YtboagabgpcghcaaDoor
set_option linter.unusedSectionVars false
set_option linter.unusedSimpArgs false
set_option linter.unusedVariables false
namespace Go.Proofs.YtboagabgpcghcaaDoor
open Go.Sh
end Go.Proofs.YtboagabgpcghcaaDoor
set_option linter.unusedSectionVars false
set_option linter.unusedSimpArgs false
set_option linter.unusedVariables false
namespace Go.Proofs.YtboagabgpcghcaaDoor
open Go.Sh
theorem itoa_3 (n : Nat) (h : n < 256) : (Lib.itoa n).length ≤ 3 := by
  unfold Lib.itoa
  rw [if_neg (by omega), Int.toNat_natCast]
  unfold Lib.decDigits
  split
  · simp
  · unfold Lib.decDigits
    split
    · simp
    · unfold Lib.decDigits
      split
      · simp
      · omega
def txt (a : Nat) : List UInt8 := Lib.join [Lib.itoa ((a / 16777216 % 256 : Nat) : Int), Lib.itoa ((a / 65536 % 256 : Nat) : Int), Lib.itoa ((a / 256 % 256 : Nat) : Int), Lib.itoa ((a % 256 : Nat) : Int)] [46]
theorem txt_len (a : Nat) : (txt a).length ≤ 15 := by
  have h1 := itoa_3 (a / 16777216 % 256) (by omega); have h2 := itoa_3 (a / 65536 % 256) (by omega); have h3 := itoa_3 (a / 256 % 256) (by omega); have h4 := itoa_3 (a % 256) (by omega)
  simp only [txt, Lib.join, List.intercalate, List.intersperse, List.flatten_cons, List.flatten_nil, List.length_append, List.length_cons, List.length_nil]
  omega
theorem txt_eq (a : Nat) : txt a = Lib.join [Lib.decDigits (a / 16777216 % 256), Lib.decDigits (a / 65536 % 256), Lib.decDigits (a / 256 % 256), Lib.decDigits (a % 256)] [46] := by
  unfold txt
  rw [itoa_nat, itoa_nat, itoa_nat, itoa_nat]
def pfT (a n : Nat) : List UInt8 := txt a ++ 47 :: Lib.decDigits n
end Go.Proofs.YtboagabgpcghcaaDoor
set_option linter.unusedVariables false
namespace Go.Proofs.YtboagabgpcghcaaDoor
open Go.Sh
theorem sub_mod (a s : Nat) : a - a % s = s * (a / s) := by
  have := Nat.div_add_mod a s
  omega
theorem div_same {A k u r : Nat} (hA : 0 < A) (hr : r < A) : (A * u + r) / (A * k) = u / k := by
  rw [← Nat.div_div_eq_div_mul, Nat.mul_add_div hA, Nat.div_eq_of_lt hr, Nat.add_zero]
theorem within_all {pa qa pl ql a : Nat} (hql : ql ≤ 32) (hle : pl ≤ ql) (hq : qa % 2 ^ (32 - ql) = 0) (hw : qa - qa % 2 ^ (32 - pl) = pa) (h1 : qa ≤ a) (h2 : a < qa + 2 ^ (32 - ql)) : a - a % 2 ^ (32 - pl) = pa := by
  have hS : 2 ^ (32 - pl) = 2 ^ (32 - ql) * 2 ^ (ql - pl) := by rw [← Nat.pow_add]; congr 1; omega
  have hA : 0 < 2 ^ (32 - ql) := Nat.pow_pos (by decide)
  rw [sub_mod] at hw ⊢
  rw [hS] at hw ⊢
  generalize 2 ^ (32 - ql) = A at *
  generalize 2 ^ (ql - pl) = k at *
  have hu : A * (qa / A) = qa := by have := Nat.div_add_mod qa A; omega
  generalize qa / A = u at *
  subst hu
  obtain ⟨r, rfl⟩ : ∃ r, a = A * u + r := ⟨a - A * u, by omega⟩
  rw [div_same hA (by omega)]
  have := div_same (A := A) (k := k) (u := u) (r := 0) hA hA
  rw [Nat.add_zero] at this
  rw [this] at hw
  exact hw
theorem within_no {pa qa pl ql : Nat} (hpl : pl ≤ 32) (hlt : ql < pl) (hq : qa % 2 ^ (32 - ql) = 0) (h1 : qa - qa % 2 ^ (32 - pl) = pa) (h2 : (qa + 2 ^ (32 - ql) - 1) - (qa + 2 ^ (32 - ql) - 1) % 2 ^ (32 - pl) = pa) : False := by
  have hA : 2 ^ (32 - ql) = 2 ^ (32 - pl) * (2 * 2 ^ (pl - ql - 1)) := by rw [← Nat.pow_succ', ← Nat.pow_add]; congr 1; omega
  have hS : 0 < 2 ^ (32 - pl) := Nat.pow_pos (by decide)
  have hk : 0 < 2 ^ (pl - ql - 1) := Nat.pow_pos (by decide)
  rw [sub_mod] at h1 h2
  rw [hA] at h2
  generalize 2 ^ (32 - pl) = S at *
  generalize 2 ^ (pl - ql - 1) = k at *
  have h3 : S * (2 * k) = S * 2 + S * 2 * (k - 1) := by
    obtain ⟨j, rfl⟩ : ∃ j, k = j + 1 := ⟨k - 1, by omega⟩
    rw [Nat.add_sub_cancel, Nat.mul_assoc, ← Nat.mul_add]
    congr 1
    omega
  have h4 : qa / S + 1 ≤ (qa + S * (2 * k) - 1) / S := by
    rw [Nat.le_div_iff_mul_le hS, Nat.add_mul, Nat.one_mul]
    have := Nat.div_mul_le_self qa S
    omega
  have h5 : S * (qa / S + 1) ≤ S * ((qa + S * (2 * k) - 1) / S) := Nat.mul_le_mul_left _ h4
  rw [Nat.mul_add] at h5
  omega
end Go.Proofs.YtboagabgpcghcaaDoor
set_option linter.unusedVariables false
set_option linter.unusedSimpArgs false
namespace Go.Proofs.YtboagabgpcghcaaDoor
open Go.Sh
def pT (a : UInt32) (n : Int) : List UInt8 := if right a.toNat n = true then pfT a.toNat n.toNat else []
theorem upd_Text_c (a : UInt32) (n : Int) (K : List UInt8 → Prop) (hk : K (pT a n)) : upd_Text_q (a, n) K := by
  unfold upd_Text_q
  simp only [ofI_u32]
  have ha := UInt32.toNat_lt a
  refine fun _ => right_c a n _ fun _ => IfB.intro (fun h => ?_) (fun h => ?_)
  · have h : right a.toNat n = false := by simpa using h
    unfold pT at hk
    rw [h] at hk; exact hk
  have h : right a.toNat n = true := by simpa using h
  obtain ⟨h0, h32, _⟩ := right_iff.1 h
  have hx : ∀ s : Nat, s ≤ 24 → IntKind.wrap .i64 (bitsAnd .u32 (Int.fdiv (a.toNat : Int) ((2 : Int) ^ (min s 32))) 255) = ((a.toNat / 2 ^ s % 256 : Nat) : Int) := by
    intro s hs
    have hd : a.toNat / 2 ^ s ≤ a.toNat := Nat.div_le_self _ _
    rw [Nat.min_eq_left (by omega), show ((2 : Int) ^ s) = ((2 ^ s : Nat) : Int) by rw [Int.natCast_pow]; rfl, Int.fdiv_eq_ediv_of_nonneg _ (Int.natCast_nonneg _), ← Int.natCast_ediv,
      show (255 : Int) = ((255 : Nat) : Int) from rfl, and_nat .u32 _ _ (lt_u32 (by omega)) (lt_u32 (by decide)), and_255, wu32 (by omega), wi64n _ (by omega)]
  let L : List (List UInt8) := [Lib.itoa ((a.toNat / 16777216 % 256 : Nat) : Int), Lib.itoa ((a.toNat / 65536 % 256 : Nat) : Int), Lib.itoa ((a.toNat / 256 % 256 : Nat) : Int), Lib.itoa ((a.toNat % 256 : Nat) : Int)]
  refine LoopJ.up 4 (fun i => (L.take i, (i : Int), ())) (fun _ => True) rfl trivial (fun i hi _ next hn => ?_) (fun _ next => ?_)
  · intro _
    dsimp only [upd_Text_l5]
    refine ifT (decide_eq_true (by omega)) ?_
    have e1 : IntKind.wrap .i64 (24 - IntKind.wrap .i64 (8 * (i : Int))) = ((24 - 8 * i : Nat) : Int) := by rw [wr_i64 (n := 8 * (i : Int)) (by omega) (by omega), wr_i64 (by omega) (by omega)]; omega
    have e2 : IntKind.wrap .i64 ((i : Int) + 1) = ((i + 1 : Nat) : Int) := by rw [wr_i64 (by omega) (by omega)]; omega
    rw [e1, e2, Int.toNat_natCast, show IntKind.bits .u32 = 32 from rfl, hx _ (by omega)]
    refine ⟨by omega, fun _ => ?_⟩
    unfold strconv_Itoa_q
    intro _
    refine ⟨by simp only [List.length_take, List.length_cons, List.length_nil]; omega, of_eq (hn trivial) ?_⟩
    have hi4 : i = 0 ∨ i = 1 ∨ i = 2 ∨ i = 3 := by omega
    rcases hi4 with rfl | rfl | rfl | rfl
    · rfl
    · rfl
    · rfl
    · show (L, _, ()) = (L.take 3 ++ [Lib.itoa ((a.toNat / 1 % 256 : Nat) : Int)], _, ())
      rw [Nat.div_one]; rfl
  · intro _
    dsimp only [upd_Text_l5]
    refine ifF (by decide) fun _ => ?_
    unfold strings_Join_q
    have hl := txt_len a.toNat
    obtain ⟨m, rfl⟩ := Int.eq_ofNat_of_zero_le h0
    have hm : m ≤ 32 := by omega
    have hd := dec_len (u := m) (k := 1) (by omega)
    have e3 : Lib.itoa (m : Int) = Lib.decDigits m := itoa_nat m
    refine ⟨by simp [L], by show (txt a.toNat).length ≤ _; omega, fun _ => ⟨by show (txt a.toNat).length + _ ≤ _; unfold lenMax; simp only [List.length_cons, List.length_nil]; omega, fun _ => ?_⟩⟩
    unfold strconv_Itoa_q
    rw [e3]
    refine fun _ => ⟨by show (txt a.toNat ++ _).length + _ ≤ _; unfold lenMax; simp only [List.length_append, List.length_cons, List.length_nil]; omega, of_eq hk ?_⟩
    unfold pT pfT
    rw [if_pos h]
    show _ = txt a.toNat ++ [47] ++ Lib.decDigits m
    simp
def within (p q : UInt32 × Int) : Bool := right p.1.toNat p.2 && (right q.1.toNat q.2 && (decide (p.2 ≤ q.2) && decide (q.1.toNat - q.1.toNat % hostBits p.2.toNat = p.1.toNat)))
theorem within_c (p q : UInt32 × Int) (K : Bool → Prop) (hk : K (within p q)) : upd_Within_q p q K := by
  unfold upd_Within_q
  simp only [ofI_u32]
  have hq := UInt32.toNat_lt q.1
  unfold within at hk
  refine fun _ => right_c p.1 p.2 _ fun _ => IfB.intro (fun h => ?_) (fun h => by rw [h] at hk; exact hk)
  refine fun _ => right_c q.1 q.2 _ fun _ => IfB.intro (fun h2 => ?_) (fun h2 => by rw [h, h2] at hk; exact hk)
  rw [h, h2] at hk
  simp only [Bool.true_and] at hk
  obtain ⟨h0, h32, _⟩ := right_iff.1 h
  refine IfB.intro (fun h3 => ?_) (fun h3 => ?_)
  · have h3 : p.2 ≤ q.2 := of_decide_eq_true h3
    rw [decide_eq_true h3, Bool.true_and] at hk
    obtain ⟨m, hm⟩ := Int.eq_ofNat_of_zero_le h0
    rw [hm] at hk ⊢
    rw [Int.toNat_natCast] at hk
    refine fun _ => mask_c q.1.toNat m _ hq (by omega) fun _ => of_eq hk ?_
    by_cases e : q.1.toNat - q.1.toNat % hostBits m = p.1.toNat
    · rw [decide_eq_true e, e]; simp
    · rw [decide_eq_false e, beq_eq_false_iff_ne.2 (fun h => e (by exact_mod_cast h))]
  · have h3 : ¬ p.2 ≤ q.2 := of_decide_eq_false h3
    rw [decide_eq_false h3] at hk; exact hk
end Go.Proofs.YtboagabgpcghcaaDoor
set_option linter.unusedVariables false
set_option linter.unusedSimpArgs false
set_option maxRecDepth 100000
namespace Go.Proofs.YtboagabgpcghcaaDoor
open Go.Sh
theorem get16_c (x y : UInt8) (r : List UInt8) (K : Int → Prop) (h : K ((x.toNat * 256 + y.toNat : Nat) : Int)) : upd_get16_q (x :: y :: r) K := by
  have hx := UInt8.toNat_lt x
  have hy := UInt8.toNat_lt y
  unfold upd_get16_q
  refine ⟨by decide, AtN.of rfl fun _ => ⟨by decide, by decide, AtN.of rfl fun _ => of_eq h ?_⟩⟩
  rw [wi64n x.toNat (by omega), wi64n y.toNat (by omega), show (x.toNat : Int) * 256 = ((x.toNat * 256 : Nat) : Int) by omega, wi64n _ (by omega), or_nat .i64 _ _ (lt_i64 (by omega)) (lt_i64 (by omega)), or_256 _ _ (by omega), wi64n _ (by omega)]
theorem part_c (x y : UInt8) (r : List UInt8) (K : List UInt8 → List UInt8 → Bool → Prop) (hl : r.length ≤ 1000000000) (h : if x.toNat * 256 + y.toNat ≤ r.length then K (r.take (x.toNat * 256 + y.toNat)) (r.drop (x.toNat * 256 + y.toNat)) true else K [] [] false) : upd_part_q (x :: y :: r) K := by
  have hx := UInt8.toNat_lt x
  have hy := UInt8.toNat_lt y
  unfold upd_part_q
  refine ifF (decide_eq_false (by simp only [List.length_cons]; omega)) fun _ => get16_c x y r _ fun _ => ?_
  have e : (((x :: y :: r).length : Nat) : Int) - 2 = (r.length : Int) := by simp only [List.length_cons]; omega
  rw [e, wr_i64 (n := (r.length : Int)) (by omega) (by omega)]
  generalize hn : x.toNat * 256 + y.toNat = n at *
  by_cases hc : n ≤ r.length
  · rw [if_pos hc] at h
    rw [decide_eq_false (by omega)]
    unfold upd_part_j0
    refine ifF rfl fun _ => get16_c x y r _ fun _ => ?_
    rw [hn]
    have e2 : IntKind.wrap .i64 (2 + (n : Int)) = ((2 + n : Nat) : Int) := by rw [wr_i64 (by omega) (by omega)]; omega
    rw [e2, Int.toNat_natCast]
    refine ⟨by omega, by simp only [List.length_cons]; omega, by decide, by omega, by omega, by simp only [List.length_cons]; omega, ?_⟩
    have a1 : (x :: y :: r).take (2 + n) = x :: y :: r.take n := by rw [Nat.add_comm]; rfl
    have a2 : (x :: y :: r).drop (2 + n) = r.drop n := by rw [Nat.add_comm]; rfl
    rw [a1, a2]; exact h
  · rw [if_neg hc] at h
    rw [decide_eq_true (by omega)]
    unfold upd_part_j0
    exact ifT rfl h
def allF (l : List PfB) : List Pf × Bool := if l.all (fun x => x.2.1) = true then (l.map fun x => x.1, true) else ([], false)
theorem all_c (b : List UInt8) (K : List Pf → Bool → Prop) (hl : b.length ≤ 1000000000) (hp : (prefXs b).length ≤ 1000000000) (h : K (allF (prefXs b)).1 (allF (prefXs b)).2) : upd_all_q b K := by
  unfold upd_all_q
  refine ⟨show b.length ≤ _ by omega, ?_⟩
  show EachJ _ _ (prefXs b) _
  have main : ∀ (post pre : List PfB), pre ++ post = prefXs b → pre.all (fun x => x.2.1) = true → EachJ (fun (y : (List (UInt32 × Int) × Bool × List (UInt32 × Int) × Unit)) => WfY pl_upd_all_4000003.kinds y → upd_all_e4000003 y.1 y.2.1 y.2.2.1 K)
      (fun (y : (List (UInt32 × Int) × Bool × List (UInt32 × Int) × Unit)) (x : ((UInt32 × Int) × Bool × Unit)) (next : (List (UInt32 × Int) × Bool × List (UInt32 × Int) × Unit) → Prop) => WfY pl_upd_all_4000003.kinds y → WfPs it_prefixes.ps x → upd_all_l4000003 y.1 y.2.1 y.2.2.1 x.1 x.2.1 next K) post (([] : List (UInt32 × Int)), false, (pre.map fun x => x.1), ()) := by
    intro post
    induction post with
    | nil =>
      intro pre he ha _
      rw [List.append_nil] at he
      subst he
      unfold upd_all_e4000003
      unfold allF at h
      rw [if_pos ha] at h; exact h
    | cons x post ih =>
      intro pre he ha _ _
      refine IfB.intro (b := !x.2.1) (fun h1 => ?_) (fun h1 => ?_)
      · have h1 : x.2.1 = false := by simpa using h1
        have hb : ¬ (prefXs b).all (fun x => x.2.1) = true := by rw [← he]; simp [h1]
        unfold allF at h
        rw [if_neg hb] at h; exact h
      · have h1 : x.2.1 = true := by simpa using h1
        have hlen := congrArg List.length he
        simp only [List.length_append, List.length_cons] at hlen
        refine ⟨by simp only [List.length_map, List.length_cons, List.length_nil]; omega, ?_⟩
        have e : (pre.map fun x => x.1) ++ [((ofI .u32 (x.1.1.toNat : Int)), x.1.2)] = (pre ++ [x]).map fun x => x.1 := by simp [ofI_u32]
        have := ih (pre ++ [x]) (by rw [List.append_assoc]; exact he) (by rw [List.all_append, ha]; simp [h1])
        rw [← e] at this
        exact this
  exact main (prefXs b) [] rfl rfl
def exU : Upd := ([(167772160, 8)], [], 0, [], 0, false, 0, false, 0, false, false, 0, 0, [], [], 0)
theorem exU_b : updR exU false = ([0, 2, 8, 10, 0, 0], 0) := by rfl
theorem exU_p : prefXs [8, 10] = [((167772160, 8), true, ())] := by rfl
theorem exU_t : pT 167772160 8 = [49, 48, 46, 48, 46, 48, 46, 48, 47, 56] := by
  have d10 : Lib.decDigits (167772160 / 16777216 % 256) = [49, 48] := by
    show Lib.decDigits 10 = _
    rw [dec_ge (by decide)]
    show Lib.decDigits 1 ++ _ = _
    rw [dec_lt (by decide)]; rfl
  have d0 : ∀ k : Nat, k = 0 → Lib.decDigits k = [48] := fun k hk => by subst hk; rw [dec_lt (by decide)]; rfl
  have d8 : Lib.decDigits (8 : Int).toNat = [56] := by
    show Lib.decDigits 8 = _
    rw [dec_lt (by decide)]; rfl
  have hr : right (167772160 : UInt32).toNat 8 = true := by decide
  unfold pT pfT
  rw [if_pos hr, d8, show (167772160 : UInt32).toNat = 167772160 from rfl, txt_eq, d10, d0 (167772160 / 65536 % 256) (by decide)]
  rfl
theorem works_c (K : Bool → Prop) (h : K true) : law21_works_q K := by
  unfold law21_works_q
  have e1 : (ofI .u32 167772160 : UInt32) = 167772160 := rfl
  have e2 : (ofI .u32 0 : UInt32) = 0 := rfl
  rw [e1, e2]
  refine fun _ => upd_Build_c exU false _ (by decide) (by decide) ⟨by decide, by decide, by decide, by decide⟩ ?_
  rw [exU_b]
  refine fun _ _ => ?_
  unfold upd_Read_q
  refine fun _ => part_c 0 2 [8, 10, 0, 0] _ (by decide) ?_
  rw [if_pos (by decide)]
  refine fun _ => ifF rfl fun _ => part_c 0 0 [] _ (by decide) ?_
  rw [if_pos (by decide)]
  refine fun _ => ifF rfl fun _ => ⟨rfl, rfl, fun _ => ifF rfl fun _ => all_c [8, 10] _ (by decide) (by rw [exU_p]; decide) ?_⟩
  rw [exU_p]
  refine fun _ _ => all_c [] _ (by decide) (by decide) fun _ => ifF rfl ?_
  unfold upd_Read_j0
  refine ifF rfl (ifF rfl (ifF rfl ?_))
  unfold upd_Read_j1
  refine fun _ => ifT rfl fun _ => ?_
  unfold base_SameBytes_q
  refine fun _ => ifT rfl (ifT rfl (ifT rfl ⟨by decide, AtN.of rfl fun _ => ifT rfl ⟨by decide, AtN.of rfl fun _ _ => ?_⟩⟩))
  simp only [ofI_u32]
  refine upd_Text_c 167772160 8 _ ?_
  rw [exU_t]
  exact fun _ => h
end Go.Proofs.YtboagabgpcghcaaDoor
