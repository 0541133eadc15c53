/-
  Prefixes that are right: what the program finds, and the document.
  Paths and attributes as data.
  Paths (layer 19): what the program's functions and the document's find.
  Attributes (layer 20): what the program's functions and the document's find.
  Attributes (layer 20): what the program puts.
  Attributes (layer 20): what the program puts, and what the document does.
  Attributes (layer 20): what the document puts; the copies.
  Updates' bytes (layer 21) and messages (layer 17): what the program builds, and the document.
  Updates' bodies and messages: what the program builds, and the document.
  Attributes (layer 20): copies.
  Addresses' texts: what is read as one.
  Numbers' texts, prefixes' texts.
  Addresses' and prefixes' texts, as they are told.
  Prefixes within prefixes, in numbers.
  Prefixes: their texts, and which lie within which: what the program finds, and the document.
  The example of chapter 21; the laws UpdBuilds and UpdTells. Conditions: none beyond those of the given statements.
-/
import Derived.Test.YtboagabgpcghcaaGreatDoorQ
import Derived.Test.YtboagabgpcghcaaGreatDoorHm1
import Derived.Test.YtboagabgpcghcaaGreatDoorHm2
import Derived.Test.YtboagabgpcghcaaGreatDoorTx1
set_option linter.unusedVariables false
set_option linter.unusedSimpArgs false
namespace Go.Proofs.YtboagabgpcghcaaGreatDoor
open Go.Sh
theorem mask_c (a n : Nat) (K : Int → Prop) (ha : a < 4294967296) (hn : n ≤ 32) (hk : K ((a - a % hostBits n : Nat) : Int)) : upd_mask_q a n K := by
  unfold upd_mask_q
  have e1 : IntKind.wrap .i64 (32 - (n : Int)) = ((32 - n : Nat) : Int) := by rw [wr_i64 (by omega) (by omega)]; omega
  rw [e1]
  refine ⟨by omega, ?_⟩
  have hp : 2 ^ (32 - n) ≤ 2 ^ 32 := Nat.pow_le_pow_right (by decide) (by omega)
  have h0 : 0 < 2 ^ (32 - n) := Nat.two_pow_pos _
  have e32 : (2 : Nat) ^ 32 = 4294967296 := rfl
  have e2 : (min ((32 - n : Nat) : Int).toNat (IntKind.bits .u64)) = 32 - n := by
    rw [Int.toNat_natCast]
    have : IntKind.bits .u64 = 64 := rfl
    rw [this]; omega
  have e3 : (1 * (2 ^ (32 - n)) : Int) = ((2 ^ (32 - n) : Nat) : Int) := by rw [Int.one_mul]; norm_cast
  rw [e2, e3, wu64n _ (by omega), show (((2 ^ (32 - n) : Nat) : Int) - 1) = ((2 ^ (32 - n) - 1 : Nat) : Int) by omega, wu64n _ (by omega), wu32 (by omega), andNot_low a ha _ (by omega)]
  exact hk
def right (a : Nat) (n : Int) : Bool := decide (0 ≤ n) && (decide (n ≤ 32) && (a % hostBits n.toNat == 0))
theorem right_iff {a : Nat} {n : Int} : right a n = true ↔ 0 ≤ n ∧ n ≤ 32 ∧ a % hostBits n.toNat = 0 := by simp [right]
theorem right_c (a : UInt32) (n : Int) (K : Bool → Prop) (hk : K (right a.toNat n)) : upd_Right_q (a, n) K := by
  unfold upd_Right_q
  have ha := u32_lt a
  refine IfB.intro (fun h => IfB.intro (fun h2 => ?_) (fun h2 => of_eq hk ?_)) (fun h => of_eq hk ?_)
  · have h0 : 0 ≤ n := by simpa using h
    have h1 : n ≤ 32 := by simpa using h2
    obtain ⟨m, rfl⟩ := Int.eq_ofNat_of_zero_le h0
    intro _
    refine mask_c a.toNat m _ ha (by omega) fun _ => of_eq hk ?_
    have hle : a.toNat % hostBits m ≤ a.toNat := Nat.mod_le _ _
    unfold right
    rw [decide_eq_true h0, decide_eq_true h1, Bool.true_and, Bool.true_and, Int.toNat_natCast]
    by_cases e : a.toNat % hostBits m = 0
    · rw [e]; simp
    · have e1 : (a.toNat % hostBits m == 0) = false := beq_eq_false_iff_ne.2 e
      have e2 : (((a.toNat - a.toNat % hostBits m : Nat) : Int) == (a.toNat : Int)) = false := beq_eq_false_iff_ne.2 (by omega)
      rw [e1, e2]
  · unfold right; simp at h2; rw [decide_eq_false (show ¬ n ≤ 32 by omega)]; simp
  · unfold right; simp at h; rw [decide_eq_false (show ¬ 0 ≤ n by omega)]; simp
theorem size_c (n : Int) (K : Int → Prop) (hn : n ≤ 32) (hk : K (hostBits n.toNat : Nat)) : ref21_size_q n K := by
  unfold ref21_size_q
  refine LoopJ.up (32 - n.toNat) (fun i => (((2 ^ i : Nat) : Int), ((n.toNat + i : Nat) : Int), ())) (fun _ => True) (by simp) trivial (fun i hi _ next hx => ?_) (fun _ next => ?_)
  · intro _
    dsimp only [ref21_size_l3]
    have hp : 2 ^ (i + 1) ≤ 2 ^ 32 := Nat.pow_le_pow_right (by decide) (by omega)
    have e32 : (2 : Nat) ^ 32 = 4294967296 := rfl
    refine ifT (decide_eq_true (by omega)) (of_eq (hx trivial) ?_)
    rw [show (2 * ((2 ^ i : Nat) : Int)) = ((2 ^ (i + 1) : Nat) : Int) by rw [Nat.pow_succ]; omega, wu64n _ (by omega), show (((n.toNat + i : Nat) : Int) + 1) = ((n.toNat + (i + 1) : Nat) : Int) by omega, wi64n _ (by omega)]
  · intro _
    dsimp only [ref21_size_l3]
    exact ifF (decide_eq_false (by omega)) hk
theorem ref_right_c (a : UInt32) (n : Int) (K : Bool → Prop) (hk : K (right a.toNat n)) : ref21_Right_q (a, n) K := by
  unfold ref21_Right_q
  have ha := u32_lt a
  refine IfB.intro (fun h => IfB.intro (fun h2 => ?_) (fun h2 => of_eq hk ?_)) (fun h => of_eq hk ?_)
  · have h0 : 0 ≤ n := by simpa using h
    have h1 : n ≤ 32 := by simpa using h2
    intro _
    refine size_c n _ h1 fun _ => ?_
    have hp : 0 < hostBits n.toNat := Nat.two_pow_pos _
    refine ⟨by omega, of_eq hk ?_⟩
    unfold right
    rw [decide_eq_true h0, decide_eq_true h1, Bool.true_and, Bool.true_and]
    show _ = ((Int.tmod (IntKind.wrap .u64 (a.toNat : Int)) ((hostBits n.toNat : Nat) : Int)) == 0)
    rw [wu64n _ (by omega), show Int.tmod (a.toNat : Int) ((hostBits n.toNat : Nat) : Int) = ((a.toNat % hostBits n.toNat : Nat) : Int) from rfl]
    by_cases e : a.toNat % hostBits n.toNat = 0
    · rw [e]; rfl
    · have e1 : (a.toNat % hostBits n.toNat == 0) = false := beq_eq_false_iff_ne.2 e
      have e2 : (((a.toNat % hostBits n.toNat : Nat) : Int) == 0) = false := beq_eq_false_iff_ne.2 (by omega)
      rw [e1, e2]
  · unfold right; simp at h2; rw [decide_eq_false (show ¬ n ≤ 32 by omega)]; simp
  · unfold right; simp at h; rw [decide_eq_false (show ¬ 0 ≤ n by omega)]; simp
end Go.Proofs.YtboagabgpcghcaaGreatDoor
namespace Go.Proofs.YtboagabgpcghcaaGreatDoor
open Go.Sh
abbrev Seg := Bool × List UInt32
abbrev Raw := Int × List UInt8
abbrev Attrs := Int × List Seg × UInt32 × Bool × UInt32 × Bool × UInt32 × Bool × Bool × UInt32 × UInt32 × List UInt32 × List Raw
abbrev Attrs.origin (a : Attrs) : Int := a.1
abbrev Attrs.path (a : Attrs) : List Seg := a.2.1
abbrev Attrs.next (a : Attrs) : UInt32 := a.2.2.1
abbrev Attrs.hasMed (a : Attrs) : Bool := a.2.2.2.1
abbrev Attrs.med (a : Attrs) : UInt32 := a.2.2.2.2.1
abbrev Attrs.hasLocal (a : Attrs) : Bool := a.2.2.2.2.2.1
abbrev Attrs.loc (a : Attrs) : UInt32 := a.2.2.2.2.2.2.1
abbrev Attrs.atomic (a : Attrs) : Bool := a.2.2.2.2.2.2.2.1
abbrev Attrs.hasMaker (a : Attrs) : Bool := a.2.2.2.2.2.2.2.2.1
abbrev Attrs.makerAS (a : Attrs) : UInt32 := a.2.2.2.2.2.2.2.2.2.1
abbrev Attrs.maker (a : Attrs) : UInt32 := a.2.2.2.2.2.2.2.2.2.2.1
abbrev Attrs.comms (a : Attrs) : List UInt32 := a.2.2.2.2.2.2.2.2.2.2.2.1
abbrev Attrs.others (a : Attrs) : List Raw := a.2.2.2.2.2.2.2.2.2.2.2.2
end Go.Proofs.YtboagabgpcghcaaGreatDoor
namespace Go.Proofs.YtboagabgpcghcaaGreatDoor
open Go.Sh
def cnt (p : List Seg) : Nat := (p.map (·.2.length)).sum
theorem cnt_snoc (p : List Seg) (s : Seg) : cnt (p ++ [s]) = cnt p + s.2.length := by simp [cnt]
theorem path_count_c (p : List Seg) (K : Int → Prop) (hl : p.length ≤ 9223372036854775807) (hc : cnt p ≤ 9223372036854775807) (h : K (cnt p)) : path_count_q p K := by
  unfold path_count_q
  refine LoopJ.list p (fun pre => ((cnt pre : Int), (pre.length : Int), ())) (fun _ => True) rfl trivial (fun pre s post hp _ next hn => ?_) (fun _ next _ => ?_)
  · intro _
    dsimp only [path_count_l3]
    refine ifT (by simp [hp]; omega) ⟨by omega, AtN.of (at_pre hp) fun _ => of_eq (hn trivial) ?_⟩
    have h1 : p.length = pre.length + 1 + post.length := by rw [hp]; simp; omega
    have h2 : cnt p = cnt pre + s.2.length + cnt post := by rw [hp]; simp [cnt]; omega
    rw [wr_i64 (by omega) (by omega), wr_i64 (by omega) (by omega), cnt_snoc]
    simp
  · dsimp only [path_count_l3]
    exact ifF (by simp) h
theorem index_c (l : List UInt32) (v : Int) (K : Int → Prop) (hl : l.length ≤ 9223372036854775807) (h1 : ∀ i : Nat, (∃ x ∈ l, (x.toNat : Int) = v) → K i) (h2 : (∀ x ∈ l, (x.toNat : Int) ≠ v) → K (-1)) : slices_Indexasl_uint32_uint32_q l v K := by
  unfold slices_Indexasl_uint32_uint32_q
  refine LoopJ.list l (fun pre => ((pre.length : Int), ())) (fun pre => ∀ x ∈ pre, (x.toNat : Int) ≠ v) rfl (by simp) (fun pre x post hp hP next hn => ?_) (fun hP next _ => ?_)
  · intro _
    dsimp only [slices_Indexasl_uint32_uint32_l2]
    refine ifT (by simp [hp]; omega) ⟨by omega, AtN.of (at_pre hp) fun _ => ?_⟩
    refine IfB.intro (fun h => ?_) (fun h => ?_)
    · exact h1 pre.length ⟨x, by simp [hp], by simpa using (by simpa using h : v = (x.toNat : Int)).symm⟩
    · have hne : v ≠ (x.toNat : Int) := by simpa using h
      refine of_eq (hn fun y hy => ?_) ?_
      · rcases List.mem_append.1 hy with hy | hy
        · exact hP y hy
        · simp only [List.mem_singleton] at hy
          subst hy
          exact fun e => hne e.symm
      · have h1 : l.length = pre.length + 1 + post.length := by rw [hp]; simp; omega
        rw [wr_i64 (by omega) (by omega)]
        simp
  · dsimp only [slices_Indexasl_uint32_uint32_l2]
    exact ifF (by simp) (h2 hP)
theorem contains_c (l : List UInt32) (v : Int) (K : Bool → Prop) (hl : l.length ≤ 9223372036854775807) (h : K (l.any fun x => (x.toNat : Int) == v)) : slices_Containsasl_uint32_uint32_q l v K := by
  unfold slices_Containsasl_uint32_uint32_q
  intro _
  refine index_c l v _ hl (fun i hx _ => of_eq h ?_) (fun hx _ => of_eq h ?_)
  · obtain ⟨x, hx, hv⟩ := hx
    rw [List.any_eq_true.2 ⟨x, hx, by simp [hv]⟩]
    simp
  · have : (l.any fun x => (x.toNat : Int) == v) = false := by
      rw [List.any_eq_false]; intro x h; simpa using hx x h
    rw [this]; rfl
theorem u32_ne0 (x : UInt32) : (x != 0) = !((x.toNat : Int) == 0) := by
  by_cases h : x = 0
  · subst h; rfl
  · have : x.toNat ≠ 0 := fun e => h (UInt32.toNat_inj.1 e)
    have h2 : ((x.toNat : Int) == 0) = false := by simpa using this
    rw [h2]
    simp [h]
def partOk (s : Seg) : Bool := decide (0 < s.2.length) && decide (s.2.length ≤ 255) && s.2.all fun x => x != 0
theorem path_part_c (s : Seg) (K : Bool → Prop) (h : K (partOk s)) : path_part_q s K := by
  unfold path_part_q
  refine IfB.intro (fun h1 => IfB.intro (fun h2 => ?_) (fun h2 => of_eq h ?_)) (fun h1 => of_eq h ?_)
  · intro _
    have h1 : 0 < s.2.length := by simpa using h1
    have h2 : s.2.length ≤ 255 := by simp at h2; omega
    refine contains_c s.2 0 _ (by omega) (fun _ => of_eq h ?_)
    have e : (s.2.all fun x => x != 0) = !(s.2.any fun x => (x.toNat : Int) == 0) := by
      rw [List.not_any_eq_all_not]
      congr 1
      funext x
      exact u32_ne0 x
    simp [partOk, h1, h2, e]
  · have : ¬ s.2.length ≤ 255 := by simp at h2; omega
    simp [partOk, this]
  · have : ¬ 0 < s.2.length := by simp at h1; simp [h1]
    simp [partOk, this]
def pathOk (p : List Seg) : Bool := p.all partOk && decide (cnt p ≤ 64)
def errIf (b : Bool) : Int := if b then 0 else 2
theorem path_Check_c (p : List Seg) (K : Int → Prop) (hl : p.length ≤ 9223372036854775807) (hc : cnt p ≤ 9223372036854775807) (h : K (errIf (pathOk p))) : path_Check_q p K := by
  unfold path_Check_q
  refine LoopJ.over p (fun pre => ((pre.length : Int), ())) (fun pre => pre.all partOk = true) rfl rfl (fun pre s post hp hn hP next hx => ?_) (fun hP next _ => ?_)
  · intro _
    dsimp only [path_Check_l2]
    refine ifT (decide_eq_true (by omega)) ⟨by omega, AtN.of (at_pre hp) fun _ _ => ?_⟩
    refine path_part_c s _ fun _ => IfB.intro (fun h1 => of_eq h ?_) (fun h1 => of_eq (hx ?_) ?_)
    · have : p.all partOk = false := by
        rw [hp]; simp at h1; simp [h1]
      simp [pathOk, this, errIf]
    · simp at h1
      simp [h1]
      simpa using hP
    · rw [wr_i64 (by omega) (by omega)]; simp
  · dsimp only [path_Check_l2]
    refine ifF (decide_eq_false (by omega)) fun _ => path_count_c p _ hl hc fun _ => IfB.intro (fun h1 => of_eq h ?_) (fun h1 => of_eq h ?_)
    · have : ¬ cnt p ≤ 64 := by simp at h1; omega
      simp [pathOk, this, errIf]
    · have : cnt p ≤ 64 := by simp at h1; omega
      rw [pathOk, hP, decide_eq_true this]; rfl
theorem cnt_parts (pre post : List Seg) (s : Seg) : cnt (pre ++ s :: post) = cnt pre + s.2.length + cnt post := by simp [cnt]; omega
def encAS (four : Bool) (x : UInt32) : List UInt8 := if four then be4 x.toNat else be2 (if x.toNat > 65535 then 23456 else x.toNat)
def encSeg (four : Bool) (s : Seg) : List UInt8 := [if s.1 then 1 else 2, UInt8.ofNat s.2.length] ++ s.2.flatMap (encAS four)
def encPath (four : Bool) (p : List Seg) : List UInt8 := p.flatMap (encSeg four)
theorem encAS_len (four : Bool) (x : UInt32) : (encAS four x).length ≤ 4 := by unfold encAS; split <;> simp [be4, be2]
theorem encASs_len (four : Bool) : ∀ l : List UInt32, (l.flatMap (encAS four)).length ≤ 4 * l.length
  | [] => by simp
  | x :: l => by
    have h1 := encAS_len four x
    have h2 := encASs_len four l
    simp only [List.flatMap_cons, List.length_append, List.length_cons]
    omega
theorem encPath_len (four : Bool) : ∀ p : List Seg, (encPath four p).length ≤ 2 * p.length + 4 * cnt p
  | [] => by simp [encPath]
  | s :: p => by
    have h1 := encASs_len four s.2
    have h2 := encPath_len four p
    have h3 : cnt (s :: p) = s.2.length + cnt p := by simp [cnt]
    have h4 : (encPath four (s :: p)).length = 2 + (s.2.flatMap (encAS four)).length + (encPath four p).length := by simp [encPath, encSeg]; omega
    simp only [List.length_cons]
    omega
theorem parts_len : ∀ p : List Seg, p.all partOk = true → p.length ≤ cnt p
  | [], _ => by simp
  | s :: p, h => by
    simp only [List.all_cons, Bool.and_eq_true] at h
    have h1 := parts_len p h.2
    have h2 : 0 < s.2.length := by have := h.1; simp only [partOk, Bool.and_eq_true, decide_eq_true_eq] at this; exact this.1.1
    have h3 : cnt (s :: p) = s.2.length + cnt p := by simp [cnt]
    simp only [List.length_cons]
    omega
theorem encPath_snoc (four : Bool) (p : List Seg) (s : Seg) : encPath four (p ++ [s]) = encPath four p ++ encSeg four s := by simp [encPath]
theorem enc_short {four : Bool} {p pre post : List Seg} {s : Seg} (hp : p = pre ++ s :: post) (hok : pathOk p = true) : (encPath four pre).length + 4 * s.2.length + 10 ≤ 1000 := by
  simp only [pathOk, Bool.and_eq_true, decide_eq_true_eq] at hok
  have h1 := parts_len p hok.1
  have h2 := encPath_len four pre
  have h3 := cnt_parts pre post s
  rw [← hp] at h3
  have h4 : pre.length ≤ p.length := by rw [hp]; simp
  omega
theorem encAS_four (x : UInt32) : encAS true x = [UInt8.ofNat (x.toNat / 16777216), UInt8.ofNat (x.toNat / 65536), UInt8.ofNat (x.toNat / 256), UInt8.ofNat x.toNat] := rfl
theorem path_kind_c (s : Seg) (K : Int → Prop) (h : K (if s.1 then 1 else 2)) : path_kind_q s K := by
  unfold path_kind_q
  refine IfB.intro (fun h1 => of_eq h ?_) (fun h1 => of_eq h ?_) <;> simp [h1]
theorem path_Put_c (p : List Seg) (four : Bool) (K : List UInt8 → Int → Prop) (hl : p.length ≤ 9223372036854775807) (hc : cnt p ≤ 9223372036854775807) (h : K (if pathOk p then encPath four p else []) (errIf (pathOk p))) : path_Put_q p four K := by
  unfold path_Put_q
  intro _
  refine path_Check_c p _ hl hc fun _ => IfB.intro (fun h1 => ?_) (fun h1 => ?_)
  · have : pathOk p = false := by cases hb : pathOk p <;> simp [errIf, hb] at h1 ⊢
    rw [this] at h ⊢
    exact h
  · have hok : pathOk p = true := by cases hb : pathOk p <;> simp [errIf, hb] at h1 ⊢
    rw [hok] at h
    refine LoopJ.over p (fun pre => (encPath four pre, (pre.length : Int), ())) (fun _ => True) rfl trivial (fun pre s post hp hn _ next hx => ?_) (fun _ next _ => ?_)
    · intro _
      dsimp only [path_Put_l6]
      have hsh := enc_short (four := four) hp hok
      refine ifT (decide_eq_true (by omega)) ⟨by omega, AtN.of (at_pre hp) fun _ _ => path_kind_c s _ fun _ => ⟨by simp only [List.length_cons, List.length_nil]; omega, ?_⟩⟩
      refine LoopJ.over s.2 (fun l => (encPath four pre ++ [if s.1 then 1 else 2, UInt8.ofNat s.2.length] ++ l.flatMap (encAS four), (l.length : Int), ())) (fun _ => True) ?_ trivial (fun l x r hs hm _ next' hy => ?_) (fun _ next' _ => ?_)
      · rw [of8w]
        cases s.1 <;> simp [ofI]
      · intro _
        dsimp only [path_Put_l10]
        have h5 := encASs_len four l
        refine ifT (decide_eq_true (by omega)) ⟨by omega, AtN.of (at_pre hs) fun _ => IfB.intro (fun h1 => ?_) (fun h1 => IfB.intro (fun h2 => ?_) (fun h2 => ?_))⟩
        · refine ⟨by omega, by omega, by simp only [List.length_append, List.length_cons, List.length_nil]; omega, by decide, by simp only [List.length_append, List.length_cons, List.length_nil]; omega, ?_⟩
          dsimp only [path_Put_j1]
          refine of_eq (hy trivial) ?_
          rw [wr_i64 (by omega) (by omega), fdiv_1, fdiv_2, fdiv_3, of8w, of8w, of8w, of8w]
          simp [h1, encAS_four]
        · refine ⟨by decide, by simp only [List.length_append, List.length_cons, List.length_nil]; omega, ?_⟩
          dsimp only [path_Put_j1]
          refine of_eq (hy trivial) ?_
          have h2 : x.toNat > 65535 := by simp at h2; omega
          rw [wr_i64 (by omega) (by omega)]
          simp [h1, encAS, h2, be2]
          decide
        · refine ⟨by decide, by simp only [List.length_append, List.length_cons, List.length_nil]; omega, ?_⟩
          dsimp only [path_Put_j1]
          refine of_eq (hy trivial) ?_
          have h2 : ¬ x.toNat > 65535 := by simp at h2; omega
          rw [wr_i64 (by omega) (by omega), fdiv_1, of8w, of8w]
          simp [h1, encAS, h2, be2]
      · dsimp only [path_Put_l10]
        refine ifF (decide_eq_false (by omega)) (of_eq (hx trivial) ?_)
        rw [wr_i64 (by omega) (by omega), encPath_snoc]
        simp [encSeg]
    · dsimp only [path_Put_l6]
      exact ifF (decide_eq_false (by omega)) h
end Go.Proofs.YtboagabgpcghcaaGreatDoor
namespace Go.Proofs.YtboagabgpcghcaaGreatDoor
open Go.Sh
def knownK (k : Int) : Bool := k == 1 || k == 2 || k == 3 || k == 4 || k == 5 || k == 6 || k == 7 || k == 8 || k == 17 || k == 18
def flagOf (k : Int) : Int := if k = 1 ∨ k = 2 ∨ k = 3 ∨ k = 5 ∨ k = 6 then 64 else if k = 4 then 128 else if k = 7 ∨ k = 8 ∨ k = 17 ∨ k = 18 then 192 else 0
theorem attr_hop_c (n : Int) (K : Bool → Prop) (h : K (decide (n ≠ 0 ∧ n < 3758096384))) : attr_hop_q n K := by
  unfold attr_hop_q
  refine IfB.intro (fun h1 => of_eq h ?_) (fun h1 => of_eq h ?_) <;> simp_all
theorem attr_known_c (k : Int) (K : Int → Bool → Prop) (h : K (flagOf k) (knownK k)) : attr_known_q k K := by
  by_cases h1 : k = 1; · subst h1; exact h
  by_cases h2 : k = 2; · subst h2; exact h
  by_cases h3 : k = 3; · subst h3; exact h
  by_cases h5 : k = 5; · subst h5; exact h
  by_cases h6 : k = 6; · subst h6; exact h
  by_cases h4 : k = 4; · subst h4; exact h
  by_cases h7 : k = 7; · subst h7; exact h
  by_cases h8 : k = 8; · subst h8; exact h
  by_cases h17 : k = 17; · subst h17; exact h
  by_cases h18 : k = 18; · subst h18; exact h
  have e : ∀ n : Int, k ≠ n → (k == n) = false := fun n hn => by simpa using hn
  have ef : flagOf k = 0 := by simp [flagOf, h1, h2, h3, h4, h5, h6, h7, h8, h17, h18]
  have ek : knownK k = false := by simp [knownK, h1, h2, h3, h4, h5, h6, h7, h8, h17, h18]
  rw [ef, ek] at h
  simp only [attr_known_q, attr_known_j0, attr_known_j1, attr_known_j2, e 1 h1, e 2 h2, e 3 h3, e 4 h4, e 5 h5, e 6 h6, e 7 h7, e 8 h8, e 17 h17, e 18 h18, IfB]
  exact h
def othersOk : Int → List Raw → Bool
  | _, [] => true
  | last, x :: l => (!knownK x.1 && decide (last < x.1) && decide (x.1 ≤ 255) && decide (x.2.length ≤ 255)) && othersOk x.1 l
def lastOf : Int → List Raw → Int
  | last, [] => last
  | _, x :: l => lastOf x.1 l
theorem othersOk_app : ∀ (l l' : List Raw) (last : Int), othersOk last (l ++ l') = (othersOk last l && othersOk (lastOf last l) l')
  | [], l', last => by simp [othersOk, lastOf]
  | x :: l, l', last => by simp only [List.cons_append, othersOk, lastOf, othersOk_app l l' x.1, Bool.and_assoc]
theorem lastOf_snoc : ∀ (l : List Raw) (x : Raw) (last : Int), lastOf last (l ++ [x]) = x.1
  | [], x, last => rfl
  | y :: l, x, last => by simp only [List.cons_append, lastOf]; exact lastOf_snoc l x y.1
theorem attr_others_c (l : List Raw) (K : Bool → Prop) (hl : l.length ≤ 9223372036854775807) (h : K (othersOk (-1) l && decide (l.length ≤ 8))) : attr_others_q l K := by
  unfold attr_others_q
  refine LoopJ.over l (fun pre => (lastOf (-1) pre, (pre.length : Int), ())) (fun pre => othersOk (-1) pre = true) rfl rfl (fun pre x post hp hn hP next hx => ?_) (fun hP next _ => ?_)
  · intro _
    dsimp only [attr_others_l3, attr_others_j0]
    have good : othersOk (lastOf (-1) pre) [x] = true → next (x.1, IntKind.wrap .i64 ((pre.length : Int) + 1), ()) := fun hg => by
      refine of_eq (hx (by rw [othersOk_app, hP, hg]; rfl)) ?_
      rw [lastOf_snoc, wr_i64 (by omega) (by omega)]; simp
    have bad : othersOk (lastOf (-1) pre) [x] = false → K false := fun hb => of_eq h (by
      have e : pre ++ x :: post = (pre ++ [x]) ++ post := by simp
      rw [hp, e, othersOk_app, othersOk_app, hb]; simp)
    refine ifT (decide_eq_true (by omega)) ⟨by omega, AtN.of (at_pre hp) fun _ _ => ?_⟩
    refine attr_known_c x.1 _ fun _ => IfB.intro (fun h1 => bad ?_) (fun h1 => IfB.intro (fun h2 => bad ?_) (fun h2 => IfB.intro (fun h3 => bad ?_) (fun h3 => IfB.intro (fun h4 => bad ?_) (fun h4 => good ?_))))
    · simp [othersOk, h1]
    · have h2 : ¬ lastOf (-1) pre < x.1 := by simp at h2; omega
      simp [othersOk, h2]
    · have h3 : ¬ x.1 ≤ 255 := by simp at h3; omega
      simp [othersOk, h3]
    · have h4 : ¬ x.2.length ≤ 255 := by simp at h4; omega
      simp [othersOk, h4]
    · have h2 : lastOf (-1) pre < x.1 := by simp at h2; omega
      have h3 : x.1 ≤ 255 := by simp at h3; omega
      have h4 : x.2.length ≤ 255 := by simp at h4; omega
      simp [othersOk, h1, h2, h3, h4]
  · dsimp only [attr_others_l3]
    refine ifF (decide_eq_false (by omega)) (of_eq h ?_)
    rw [hP, Bool.true_and]
    congr 1
    apply propext
    omega
def attrsOk (a : Attrs) : Bool := decide (0 ≤ a.origin) && decide (a.origin ≤ 2) && pathOk a.path && decide ((a.next.toNat : Int) ≠ 0 ∧ (a.next.toNat : Int) < 3758096384) && !(a.hasMaker && (a.makerAS.toNat : Int) == 0) && decide (a.comms.length ≤ 32) && (othersOk (-1) a.others && decide (a.others.length ≤ 8))
theorem errIf_ne (b : Bool) : (errIf b != 0) = !b := by cases b <;> rfl
theorem attr_Check_c (a : Attrs) (K : Int → Prop) (hl : a.path.length ≤ 9223372036854775807) (hc : cnt a.path ≤ 9223372036854775807) (ho : a.others.length ≤ 9223372036854775807) (h : K (errIf (attrsOk a))) : attr_Check_q a K := by
  obtain ⟨origin, path, nxt, hasMed, med, hasLocal, loc, atomic, hasMaker, makerAS, maker, comms, others⟩ := a
  have bad : attrsOk (origin, path, nxt, hasMed, med, hasLocal, loc, atomic, hasMaker, makerAS, maker, comms, others) = false → K 2 := fun hb => of_eq h (by rw [hb]; rfl)
  unfold attr_Check_q
  simp only [attrsOk, Attrs.origin, Attrs.path, Attrs.next, Attrs.hasMaker, Attrs.makerAS, Attrs.comms, Attrs.others] at *
  refine IfB.intro (fun h1 => bad ?_) (fun h1 => IfB.intro (fun h2 => bad ?_) (fun h2 => ?_))
  · have : ¬ 0 ≤ origin := by simp at h1; omega
    simp [this]
  · have : ¬ origin ≤ 2 := by simp at h2; omega
    simp [this]
  have h1 : 0 ≤ origin := by simp at h1; omega
  have h2 : origin ≤ 2 := by simp at h2; omega
  intro _
  refine path_Check_c path _ hl hc fun _ => ?_
  dsimp only [attr_Check_j0]
  rw [errIf_ne]
  refine IfB.intro (fun h3 => bad ?_) (fun h3 _ => ?_)
  · have : pathOk path = false := by simpa using h3
    simp [this]
  have h3 : pathOk path = true := by simpa using h3
  refine attr_hop_c _ _ fun _ => ?_
  refine IfB.intro (fun h4 => bad ?_) (fun h4 => ?_)
  · have : decide ((nxt.toNat : Int) ≠ 0 ∧ (nxt.toNat : Int) < 3758096384) = false := by simpa only [Bool.not_eq_true', Bool.not_eq_false'] using h4
    simp only [this, Bool.and_false, Bool.false_and]
  have h4 : decide ((nxt.toNat : Int) ≠ 0 ∧ (nxt.toNat : Int) < 3758096384) = true := by simpa only [Bool.not_eq_true', Bool.not_eq_false'] using h4
  have rest : (hasMaker && (makerAS.toNat : Int) == 0) = false → attr_Check_j1 (origin, path, nxt, hasMed, med, hasLocal, loc, atomic, hasMaker, makerAS, maker, comms, others) false K := fun h5 => by
    dsimp only [attr_Check_j1, attr_Check_j2]
    refine ifF rfl (IfB.intro (fun h6 => bad ?_) (fun h6 _ => attr_others_c others _ ho fun _ => ?_))
    · have : ¬ comms.length ≤ 32 := by simp at h6; omega
      simp [this]
    · have h6 : comms.length ≤ 32 := by simp at h6; omega
      refine of_eq (next := fun b => IfB (!b) (K 2) (K 0)) ?_ rfl
      refine IfB.intro (fun h7 => bad ?_) (fun h7 => of_eq h ?_)
      · have h7 : (othersOk (-1) others && decide (others.length ≤ 8)) = false := by simpa only [Bool.not_eq_true', Bool.not_eq_false'] using h7
        rw [h7, Bool.and_false]
      · have h7 : (othersOk (-1) others && decide (others.length ≤ 8)) = true := by simpa only [Bool.not_eq_true', Bool.not_eq_false'] using h7
        rw [h7, h3, h4, h5, decide_eq_true h1, decide_eq_true h2, decide_eq_true h6]; rfl
  refine IfB.intro (fun h5 => ?_) (fun h5 => rest ?_)
  · cases h6 : ((makerAS.toNat : Int) == 0) with
    | true =>
      dsimp only [attr_Check_j1]
      refine ifT rfl (bad ?_)
      have : (hasMaker && (makerAS.toNat : Int) == 0) = true := by rw [h6, Bool.and_true]; exact h5
      simp only [this, Bool.not_true, Bool.and_false, Bool.false_and]
    | false => exact rest (by rw [h6, Bool.and_false])
  · have h5 : hasMaker = false := h5
    rw [h5, Bool.false_and]
end Go.Proofs.YtboagabgpcghcaaGreatDoor
namespace Go.Proofs.YtboagabgpcghcaaGreatDoor
open Go.Sh
theorem grow_c (n : Int) (K : List UInt8 → Prop) (h0 : 0 ≤ n) (hn : n ≤ 1000000000) (h : K []) : slices_Growasl_byte_byte_at_nil_q n K := by
  unfold slices_Growasl_byte_byte_at_nil_q
  have e : IntKind.wrap .i64 (n - IntKind.wrap .i64 (0 - 0)) = n := by
    rw [wr_i64 (n := 0 - 0) (by omega) (by omega)]
    exact wr_i64 (by omega) (by omega) |>.trans (by omega)
  rw [e]
  refine ifF (decide_eq_false (by omega)) (IfB.intro (fun h1 => ?_) (fun _ => h))
  have h1 : 0 < n := by simpa using h1
  exact ⟨by omega, by omega, h1, hn, by omega, by omega, by simpa using h⟩
theorem sum_pre {pre post : List (List UInt8)} {x : List UInt8} : (pre ++ x :: post).flatten.length = pre.flatten.length + x.length + post.flatten.length := by simp; omega
theorem concat_c (l : List (List UInt8)) (K : List UInt8 → Prop) (hl : l.length ≤ 1000000000) (hf : l.flatten.length ≤ 1000000000) (h : K l.flatten) : slices_Concatasl_byte_byte_q l K := by
  unfold slices_Concatasl_byte_byte_q
  refine LoopJ.over l (fun pre => ((pre.flatten.length : Int), (pre.length : Int), ())) (fun _ => True) rfl trivial (fun pre x post hp hn _ next hx => ?_) (fun _ next _ => ?_)
  · intro _
    dsimp only [slices_Concatasl_byte_byte_l3]
    have hs := sum_pre (pre := pre) (x := x) (post := post)
    rw [← hp] at hs
    refine ifT (decide_eq_true (by omega)) ⟨by omega, AtN.of (at_pre hp) fun _ => ?_⟩
    rw [wr_i64 (n := (pre.flatten.length : Int) + x.length) (by omega) (by omega)]
    refine ifF (decide_eq_false (by omega)) (of_eq (hx trivial) ?_)
    rw [wr_i64 (by omega) (by omega)]
    simp
  · dsimp only [slices_Concatasl_byte_byte_l3]
    refine ifF (decide_eq_false (by omega)) fun _ => grow_c _ _ (by omega) (by omega) fun _ => ?_
    refine LoopJ.over l (fun pre => (pre.flatten, (pre.length : Int), ())) (fun _ => True) rfl trivial (fun pre x post hp hn _ next hx => ?_) (fun _ next _ => ?_)
    · intro _
      dsimp only [slices_Concatasl_byte_byte_l11]
      have hs := sum_pre (pre := pre) (x := x) (post := post)
      rw [← hp] at hs
      refine ifT (decide_eq_true (by omega)) ⟨by omega, AtN.of (at_pre hp) fun _ => ⟨by omega, of_eq (hx trivial) ?_⟩⟩
      rw [wr_i64 (by omega) (by omega)]
      simp
    · dsimp only [slices_Concatasl_byte_byte_l11]
      exact ifF (decide_eq_false (by omega)) h
def attB (fl kind : Int) (data : List UInt8) : List UInt8 :=
  (if 255 < data.length then [ofI .u8 (fl + 16), ofI .u8 (IntKind.wrap .u8 kind), UInt8.ofNat (data.length / 256), UInt8.ofNat data.length] else [ofI .u8 fl, ofI .u8 (IntKind.wrap .u8 kind), UInt8.ofNat data.length]) ++ data
theorem attB_len (fl kind : Int) (data : List UInt8) : (attB fl kind data).length ≤ data.length + 4 := by
  unfold attB; split <;> simp
def okFl (fl : Int) : Prop := fl = 64 ∨ fl = 128 ∨ fl = 192 ∨ fl = 224
theorem or_16 {fl : Int} (h : okFl fl) : bitsOr .u8 fl 16 = fl + 16 := by
  rcases h with rfl | rfl | rfl | rfl <;> decide
theorem put_c (c : List UInt8) (fl kind : Int) (parts : List (List UInt8)) (K : List UInt8 → Prop) (hf : okFl fl) (hp : parts.length ≤ 1000) (hl : parts.flatten.length ≤ 100000) (hc : c.length ≤ 100000) (h : K (c ++ attB fl kind parts.flatten)) : attr_writer_put_q c fl kind parts K := by
  unfold attr_writer_put_q
  intro _
  refine concat_c parts _ (by omega) (by omega) fun _ => ?_
  rw [or_16 hf]
  refine IfB.intro (fun h1 => ?_) (fun h1 => ?_)
  · have h1 : 255 < parts.flatten.length := by simp only [decide_eq_true_eq] at h1; omega
    refine ⟨by decide, by simp only [List.length_cons, List.length_nil]; omega, ?_⟩
    refine ⟨by simp only [List.length_append, List.length_cons, List.length_nil]; omega, of_eq h ?_⟩
    rw [fdiv_1, of8w, of8w, attB, if_pos h1, List.append_assoc]
  · have h1 : ¬ 255 < parts.flatten.length := by simp only [decide_eq_false_iff_not] at h1; omega
    refine ⟨by simp only [List.length_cons, List.length_nil]; omega, ?_⟩
    refine ⟨by simp only [List.length_append, List.length_cons, List.length_nil]; omega, of_eq h ?_⟩
    rw [of8w, attB, if_neg h1, List.append_assoc]
theorem usual_c (c : List UInt8) (kind : Int) (parts : List (List UInt8)) (K : List UInt8 → Prop) (hf : okFl (flagOf kind)) (hp : parts.length ≤ 1000) (hl : parts.flatten.length ≤ 100000) (hc : c.length ≤ 100000) (h : K (c ++ attB (flagOf kind) kind parts.flatten)) : attr_writer_usual_q c kind parts K := by
  unfold attr_writer_usual_q
  intro _
  exact attr_known_c kind _ fun _ _ _ => put_c c _ kind parts _ hf hp hl hc fun _ _ => h
theorem num_c (n : Nat) (K : List UInt8 → Prop) (h : K (be4 n)) : attr_num_q (n : Int) K := by
  unfold attr_num_q
  refine ⟨by decide, by decide, by decide, of_eq h ?_⟩
  rw [fdiv_1, fdiv_2, fdiv_3, of8w, of8w, of8w, of8w]; rfl
theorem system_c (x : UInt32) (four : Bool) (K : List UInt8 → Prop) (h : K (encAS four x)) : attr_system_q (x.toNat : Int) four K := by
  unfold attr_system_q
  refine IfB.intro (fun h1 _ => num_c _ _ fun _ => of_eq h ?_) (fun h1 => IfB.intro (fun h2 => ?_) (fun h2 => ?_))
  · rw [h1]; rfl
  · have h2 : x.toNat > 65535 := by simp only [decide_eq_true_eq] at h2; omega
    dsimp only [attr_system_j0]
    exact fun _ => num_c 23456 _ fun _ => ⟨by decide, by decide, of_eq h (by simp [encAS, h1, h2, be2, be4])⟩
  · have h2 : ¬ x.toNat > 65535 := by simp only [decide_eq_false_iff_not] at h2; omega
    dsimp only [attr_system_j0]
    exact fun _ => num_c _ _ fun _ => ⟨by decide, by simp only [be4_length]; decide, of_eq h (by simp [encAS, h1, h2, be2, be4])⟩
def perhB (four : Bool) (a : Attrs) : List UInt8 :=
  (if a.hasMed then attB 128 4 (be4 a.med.toNat) else []) ++ ((if a.atomic then attB 64 6 [] else []) ++ ((if a.hasMaker then attB 192 7 (encAS four a.makerAS ++ be4 a.maker.toNat) else []) ++ if 0 < a.comms.length then attB 192 8 (a.comms.flatMap fun x => be4 x.toNat) else []))
theorem be4s_len : ∀ l : List UInt32, (l.flatMap fun x => be4 x.toNat).length = 4 * l.length
  | [] => rfl
  | x :: l => by simp only [List.flatMap_cons, List.length_append, List.length_cons, be4s_len l, be4_length]; omega
theorem perhB_len (four : Bool) (a : Attrs) : (perhB four a).length ≤ 4 * a.comms.length + 100 := by
  unfold perhB
  have h1 := attB_len 128 4 (be4 a.med.toNat)
  have h2 := attB_len 64 6 []
  have h3 := attB_len 192 7 (encAS four a.makerAS ++ be4 a.maker.toNat)
  have h4 := attB_len 192 8 (a.comms.flatMap fun x => be4 x.toNat)
  have h5 := encAS_len four a.makerAS
  rw [be4s_len] at h4
  simp only [List.length_append, be4_length, List.length_nil] at *
  split <;> split <;> split <;> split <;> (try simp only [List.length_nil]) <;> omega
theorem perhaps_c (c : List UInt8) (a : Attrs) (four : Bool) (K : List UInt8 → Prop) (hc : c.length ≤ 10000) (hm : a.comms.length ≤ 100) (h : K (c ++ perhB four a)) : attr_writer_perhaps_q c a four K := by
  obtain ⟨origin, path, nxt, hasMed, med, hasLocal, loc, atomic, hasMaker, makerAS, maker, comms, others⟩ := a
  simp only [perhB, Attrs.hasMed, Attrs.med, Attrs.atomic, Attrs.hasMaker, Attrs.makerAS, Attrs.maker, Attrs.comms] at *
  have s3 : ∀ (c : List UInt8), c.length ≤ 20000 → K (c ++ if 0 < comms.length then attB 192 8 (comms.flatMap fun x => be4 x.toNat) else []) → attr_writer_perhaps_j2 (origin, path, nxt, hasMed, med, hasLocal, loc, atomic, hasMaker, makerAS, maker, comms, others) c K := fun c hc h => by
    dsimp only [attr_writer_perhaps_j2]
    refine IfB.intro (fun h1 => ?_) (fun h1 => of_eq h ?_)
    · have h1 : 0 < comms.length := by simpa using h1
      rw [if_pos h1] at h
      refine LoopJ.over comms (fun pre => (pre.map fun x => be4 x.toNat, (pre.length : Int), ())) (fun _ => True) rfl trivial (fun pre x post hp hn _ next hx => ?_) (fun _ next _ => ?_)
      · intro _
        dsimp only [attr_writer_perhaps_l10]
        refine ifT (decide_eq_true (by omega)) ⟨by omega, AtN.of (at_pre hp) fun _ _ => num_c _ _ fun _ => ⟨by simp only [List.length_map, List.length_cons, List.length_nil]; omega, of_eq (hx trivial) ?_⟩⟩
        rw [wr_i64 (by omega) (by omega)]
        simp
      · dsimp only [attr_writer_perhaps_l10]
        have e : (comms.map fun x => be4 x.toNat).flatten = comms.flatMap fun x => be4 x.toNat := by simp [List.flatMap]
        have hfl := be4s_len comms
        refine ifF (decide_eq_false (by omega)) fun _ _ => usual_c c 8 _ _ (.inr (.inr (.inl rfl))) (by simp; omega) (by rw [e]; omega) (by omega) fun _ _ => of_eq h ?_
        rw [e]; rfl
    · have h1 : ¬ 0 < comms.length := by simp at h1; simp [h1]
      rw [if_neg h1, List.append_nil]
  have s2 : ∀ (c : List UInt8), c.length ≤ 15000 → K (c ++ ((if hasMaker then attB 192 7 (encAS four makerAS ++ be4 maker.toNat) else []) ++ if 0 < comms.length then attB 192 8 (comms.flatMap fun x => be4 x.toNat) else [])) → attr_writer_perhaps_j1 four (origin, path, nxt, hasMed, med, hasLocal, loc, atomic, hasMaker, makerAS, maker, comms, others) c K := fun c hc h => by
    dsimp only [attr_writer_perhaps_j1]
    have hl := encAS_len four makerAS
    have hb := attB_len 192 7 (encAS four makerAS ++ be4 maker.toNat)
    simp only [List.length_append, be4_length] at hb
    refine IfB.intro (fun h1 _ => system_c _ _ _ fun _ _ => num_c _ _ fun _ _ _ => usual_c c 7 _ _ (.inr (.inr (.inl rfl))) (by simp) ?_ (by omega) fun _ _ => s3 _ ?_ (of_eq h ?_)) (fun h1 => s3 _ (by omega) (of_eq h ?_))
    · simp only [List.flatten_cons, List.flatten_nil, List.append_nil, List.length_append, be4_length]; omega
    · simp only [List.flatten_cons, List.flatten_nil, List.append_nil, List.length_append]
      have : flagOf 7 = 192 := rfl
      rw [this]; omega
    · rw [if_pos h1, ← List.append_assoc]; simp only [List.flatten_cons, List.flatten_nil, List.append_nil]; rfl
    · rw [h1]; simp
  have s1 : ∀ (c : List UInt8), c.length ≤ 12000 → K (c ++ ((if atomic then attB 64 6 [] else []) ++ ((if hasMaker then attB 192 7 (encAS four makerAS ++ be4 maker.toNat) else []) ++ if 0 < comms.length then attB 192 8 (comms.flatMap fun x => be4 x.toNat) else []))) → attr_writer_perhaps_j0 four (origin, path, nxt, hasMed, med, hasLocal, loc, atomic, hasMaker, makerAS, maker, comms, others) c K := fun c hc h => by
    dsimp only [attr_writer_perhaps_j0]
    have hb := attB_len 64 6 []
    simp only [List.length_nil] at hb
    refine IfB.intro (fun h1 _ _ => usual_c c 6 _ _ (.inl rfl) (by decide) (by decide) (by omega) fun _ _ => s2 _ ?_ (of_eq h ?_)) (fun h1 => s2 _ (by omega) (of_eq h ?_))
    · have : flagOf 6 = 64 := rfl
      rw [this]; simp only [List.length_append, List.flatten_nil]; omega
    · rw [if_pos h1, ← List.append_assoc]; rfl
    · rw [h1]; simp
  dsimp only [attr_writer_perhaps_q]
  have hb := attB_len 128 4 (be4 med.toNat)
  simp only [be4_length] at hb
  refine IfB.intro (fun h1 _ => num_c _ _ fun _ _ _ => usual_c c 4 _ _ (.inr (.inl rfl)) (by simp) ?_ (by omega) fun _ _ => s1 _ ?_ (of_eq h ?_)) (fun h1 => s1 _ (by omega) (of_eq h ?_))
  · simp [be4_length]
  · simp only [List.flatten_cons, List.flatten_nil, List.append_nil, List.length_append]
    have : flagOf 4 = 128 := rfl
    rw [this]; omega
  · rw [if_pos h1, ← List.append_assoc]; simp only [List.flatten_cons, List.flatten_nil, List.append_nil]; rfl
  · rw [h1]; simp
end Go.Proofs.YtboagabgpcghcaaGreatDoor
namespace Go.Proofs.YtboagabgpcghcaaGreatDoor
open Go.Sh
def bigAS (x : UInt32) : Bool := decide (65535 < x.toNat)
def greatP (p : List Seg) : Bool := p.any fun s => s.2.any bigAS
theorem big_eq (x : UInt32) : decide ((x.toNat : Int) > 65535) = bigAS x := by
  unfold bigAS
  congr 1
  apply propext
  omega
theorem idx1_c (l : List UInt32) (K : Int → Prop) (hl : l.length ≤ 9223372036854775807) (h1 : ∀ i : Nat, l.any bigAS = true → K i) (h2 : l.any bigAS = false → K (-1)) : slices_IndexFuncasl_uint32_uint32_at_attr_great_1_1_q l K := by
  unfold slices_IndexFuncasl_uint32_uint32_at_attr_great_1_1_q
  refine LoopJ.over l (fun pre => ((pre.length : Int), ())) (fun pre => pre.any bigAS = false) rfl rfl (fun pre x post hp hn hP next hx => ?_) (fun hP next _ => ?_)
  · intro _
    dsimp only [slices_IndexFuncasl_uint32_uint32_at_attr_great_1_1_l2, attr_great_1_1_q]
    refine ifT (decide_eq_true (by omega)) ⟨by omega, AtN.of (at_pre hp) fun _ _ _ => ?_⟩
    rw [big_eq]
    refine IfB.intro (fun h => h1 _ ?_) (fun h => of_eq (hx ?_) ?_)
    · rw [hp]; simp [h]
    · rw [List.any_append, hP]; simp [h]
    · rw [wr_i64 (by omega) (by omega)]; simp
  · dsimp only [slices_IndexFuncasl_uint32_uint32_at_attr_great_1_1_l2]
    exact ifF (decide_eq_false (by omega)) (h2 hP)
theorem great1_c (s : Seg) (K : Bool → Prop) (hl : s.2.length ≤ 9223372036854775807) (h : K (s.2.any bigAS)) : attr_great_1_q s K := by
  unfold attr_great_1_q
  intro _
  unfold slices_ContainsFuncasl_uint32_uint32_at_attr_great_1_1_q
  intro _
  refine idx1_c s.2 _ hl (fun i hi _ _ => of_eq h ?_) (fun hi _ _ => of_eq h ?_)
  · rw [hi, decide_eq_true (by omega)]
  · rw [hi]; rfl
theorem idx2_c (l : List Seg) (K : Int → Prop) (hl : l.length ≤ 9223372036854775807) (hs : ∀ s ∈ l, s.2.length ≤ 9223372036854775807) (h1 : ∀ i : Nat, greatP l = true → K i) (h2 : greatP l = false → K (-1)) : slices_IndexFuncasl_api_Segment_api_Segment_at_attr_great_1_q l K := by
  unfold slices_IndexFuncasl_api_Segment_api_Segment_at_attr_great_1_q
  refine LoopJ.over l (fun pre => ((pre.length : Int), ())) (fun pre => greatP pre = false) rfl rfl (fun pre x post hp hn hP next hx => ?_) (fun hP next _ => ?_)
  · intro _
    dsimp only [slices_IndexFuncasl_api_Segment_api_Segment_at_attr_great_1_l2]
    refine ifT (decide_eq_true (by omega)) ⟨by omega, AtN.of (at_pre hp) fun _ _ => great1_c x _ (hs x (by simp [hp])) fun _ => ?_⟩
    refine IfB.intro (fun h => h1 _ ?_) (fun h => of_eq (hx ?_) ?_)
    · rw [hp]; simp only [greatP, List.any_append, List.any_cons, h, Bool.true_or, Bool.or_true]
    · simp only [greatP] at hP
      simp only [greatP, List.any_append, hP, List.any_cons, h, List.any_nil, Bool.or_false]
    · rw [wr_i64 (by omega) (by omega)]; simp
  · dsimp only [slices_IndexFuncasl_api_Segment_api_Segment_at_attr_great_1_l2]
    exact ifF (decide_eq_false (by omega)) (h2 hP)
theorem great_c (p : List Seg) (K : Bool → Prop) (hl : p.length ≤ 9223372036854775807) (hs : ∀ s ∈ p, s.2.length ≤ 9223372036854775807) (h : K (greatP p)) : attr_great_q p K := by
  unfold attr_great_q
  intro _
  unfold slices_ContainsFuncasl_api_Segment_api_Segment_at_attr_great_1_q
  intro _
  refine idx2_c p _ hl hs (fun i hi _ _ => of_eq h ?_) (fun hi _ _ => of_eq h ?_)
  · rw [hi, decide_eq_true (by omega)]
  · rw [hi]; rfl
def headB (four : Bool) (a : Attrs) : List UInt8 := attB 64 1 [ofI .u8 (IntKind.wrap .u8 a.origin)] ++ (attB 64 2 (encPath four a.path) ++ attB 64 3 (be4 a.next.toNat))
def oldB (four : Bool) (a : Attrs) : List UInt8 :=
  (if !four && greatP a.path then attB 192 17 (encPath true a.path) else []) ++ if !four && (a.hasMaker && bigAS a.makerAS) then attB 192 18 (be4 a.makerAS.toNat ++ be4 a.maker.toNat) else []
def othersB (l : List Raw) : List UInt8 := l.flatMap fun x => attB 224 x.1 x.2
def attrsB (four : Bool) (a : Attrs) : List UInt8 := headB four a ++ (perhB four a ++ (oldB four a ++ othersB a.others))
theorem path_short {four : Bool} {p : List Seg} (hok : pathOk p = true) : (encPath four p).length ≤ 1000 := by
  simp only [pathOk, Bool.and_eq_true, decide_eq_true_eq] at hok
  have h1 := parts_len p hok.1
  have h2 := encPath_len four p
  omega
theorem headB_len {four : Bool} {a : Attrs} (h : pathOk a.path = true) : (headB four a).length ≤ 1100 := by
  unfold headB
  have h1 := attB_len 64 1 [ofI .u8 (IntKind.wrap .u8 a.origin)]
  have h2 := attB_len 64 2 (encPath four a.path)
  have h3 := attB_len 64 3 (be4 a.next.toNat)
  have h4 := path_short (four := four) h
  simp only [List.length_append, be4_length, List.length_cons, List.length_nil] at *
  omega
theorem othersB_len : ∀ (l : List Raw) (last : Int), othersOk last l = true → (othersB l).length ≤ 259 * l.length
  | [], _, _ => by simp [othersB]
  | x :: l, last, h => by
    simp only [othersOk, Bool.and_eq_true, decide_eq_true_eq] at h
    have h1 := othersB_len l x.1 h.2
    have h2 := attB_len 224 x.1 x.2
    have h3 : (othersB (x :: l)).length = (attB 224 x.1 x.2).length + (othersB l).length := by simp [othersB]
    have h4 := h.1.2
    simp only [List.length_cons]
    omega
theorem attr_Put_c (a : Attrs) (four : Bool) (K : List UInt8 → Int → Prop) (hl : a.path.length ≤ 9223372036854775807) (hc : cnt a.path ≤ 9223372036854775807) (hs : ∀ s ∈ a.path, s.2.length ≤ 9223372036854775807) (ho : a.others.length ≤ 9223372036854775807)
    (h : K (if attrsOk a then attrsB four a else []) (errIf (attrsOk a))) : attr_Put_q a four K := by
  unfold attr_Put_q
  simp only [ofI_u32]
  intro _
  refine attr_Check_c a _ hl hc ho fun _ => ?_
  rw [errIf_ne]
  refine IfB.intro (fun h1 => ?_) (fun h1 _ => path_Put_c a.path four _ hl hc fun _ _ => ?_)
  · have h1 : attrsOk a = false := by simpa using h1
    rw [h1] at h ⊢
    exact h
  have h1 : attrsOk a = true := by simpa using h1
  rw [h1] at h
  have hok := h1
  simp only [attrsOk, Bool.and_eq_true, decide_eq_true_eq, Bool.not_eq_true'] at hok
  obtain ⟨⟨⟨⟨⟨⟨_, _⟩, hpok⟩, _⟩, _⟩, hcm⟩, hoth, hol⟩ := hok
  rw [if_pos hpok]
  have hps := path_short (four := four) hpok
  have hpt := path_short (four := true) hpok
  have s4 : ∀ c : List UInt8, c.length ≤ 20000 → K (c ++ othersB a.others) 0 → attr_Put_j3 a c K := fun c hc h => by
    dsimp only [attr_Put_j3, attr_Put_j4]
    refine LoopJ.over a.others (fun pre => ((pre.length : Int), c ++ othersB pre, ())) (fun _ => True) (by simp [othersB]) trivial (fun pre x post hp hn _ next hx => ?_) (fun _ next _ => ?_)
    · intro _
      dsimp only [attr_Put_l16]
      have hpre : othersOk (-1) pre = true ∧ othersOk (lastOf (-1) pre) (x :: post) = true := by
        have := hoth
        rw [hp, othersOk_app, Bool.and_eq_true] at this
        exact this
      have hb := othersB_len pre _ hpre.1
      have hx2 : x.2.length ≤ 255 := by
        have := hpre.2
        simp only [othersOk, Bool.and_eq_true, decide_eq_true_eq] at this
        exact this.1.2
      refine ifT (decide_eq_true (show (pre.length : Int) < (a.others.length : Int) by omega)) ⟨by omega, AtN.of (at_pre hp) fun _ _ _ => ?_⟩
      refine put_c _ 224 x.1 [x.2] _ (.inr (.inr (.inr rfl))) (by simp) (by simp; omega) (by simp only [List.length_append]; omega) fun _ _ => of_eq (hx trivial) ?_
      rw [wr_i64 (by omega) (by omega)]
      simp [othersB]
    · dsimp only [attr_Put_l16]
      exact ifF (decide_eq_false (show ¬ (a.others.length : Int) < (a.others.length : Int) by omega)) h
  have s3 : ∀ (c : List UInt8) (b : Bool), c.length ≤ 10000 → K (c ++ ((if b then attB 192 18 (be4 a.makerAS.toNat ++ be4 a.maker.toNat) else []) ++ othersB a.others)) 0 → attr_Put_j2 a c b K := fun c b hc h => by
    dsimp only [attr_Put_j2]
    have hb := attB_len 192 18 (be4 a.makerAS.toNat ++ be4 a.maker.toNat)
    simp only [List.length_append, be4_length] at hb
    refine IfB.intro (fun h1 _ => num_c _ _ fun _ _ => num_c _ _ fun _ _ _ => usual_c c 18 _ _ (.inr (.inr (.inl rfl))) (by simp) ?_ (by omega) fun _ _ => s4 _ ?_ (of_eq2 h ?_)) (fun h1 => s4 _ (by omega) (of_eq2 h ?_))
    · simp only [List.flatten_cons, List.flatten_nil, List.append_nil, List.length_append, be4_length]; omega
    · simp only [List.flatten_cons, List.flatten_nil, List.append_nil, List.length_append]
      have : flagOf 18 = 192 := rfl
      rw [this]; (dsimp only [Attrs.origin, Attrs.path, Attrs.next, Attrs.hasMed, Attrs.med, Attrs.hasLocal, Attrs.loc, Attrs.atomic, Attrs.hasMaker, Attrs.makerAS, Attrs.maker, Attrs.comms, Attrs.others] at *; omega)
    · rw [if_pos h1, ← List.append_assoc]; simp only [List.flatten_cons, List.flatten_nil, List.append_nil]; rfl
    · rw [h1]; simp
  have s2 : ∀ (c : List UInt8), c.length ≤ 9000 → K (c ++ ((if !four && (a.hasMaker && bigAS a.makerAS) then attB 192 18 (be4 a.makerAS.toNat ++ be4 a.maker.toNat) else []) ++ othersB a.others)) 0 → attr_Put_j1 four a c K := fun c hc h => by
    dsimp only [attr_Put_j1]
    rw [big_eq]
    refine IfB.intro (fun h1 => IfB.intro (fun h2 => s3 _ _ (by omega) (of_eq2 h ?_)) (fun h2 => s3 _ _ (by omega) (of_eq2 h ?_))) (fun h1 => s3 _ _ (by omega) (of_eq2 h ?_))
    · have h2 : a.hasMaker = true := h2
      rw [h1, h2]; rfl
    · have h2 : a.hasMaker = false := h2
      rw [h1, h2]; rfl
    · rw [h1]; rfl
  have s1 : ∀ (c : List UInt8) (b : Bool), c.length ≤ 5000 → K (c ++ ((if b then attB 192 17 (encPath true a.path) else []) ++ ((if !four && (a.hasMaker && bigAS a.makerAS) then attB 192 18 (be4 a.makerAS.toNat ++ be4 a.maker.toNat) else []) ++ othersB a.others))) 0 → attr_Put_j0 four a c b K := fun c b hc' h => by
    dsimp only [attr_Put_j0]
    have hb := attB_len 192 17 (encPath true a.path)
    refine IfB.intro (fun h1 _ => path_Put_c a.path true _ hl hc fun _ _ _ => usual_c c 17 _ _ (.inr (.inr (.inl rfl))) (by simp) ?_ (by omega) fun _ _ => s2 _ ?_ (of_eq2 h ?_)) (fun h1 => s2 _ (by omega) (of_eq2 h ?_))
    · rw [if_pos hpok]; simp only [List.flatten_cons, List.flatten_nil, List.append_nil]; omega
    · rw [if_pos hpok]; simp only [List.flatten_cons, List.flatten_nil, List.append_nil, List.length_append]
      have : flagOf 17 = 192 := rfl
      rw [this]; (dsimp only [Attrs.origin, Attrs.path, Attrs.next, Attrs.hasMed, Attrs.med, Attrs.hasLocal, Attrs.loc, Attrs.atomic, Attrs.hasMaker, Attrs.makerAS, Attrs.maker, Attrs.comms, Attrs.others] at *; omega)
    · rw [if_pos h1, if_pos hpok, ← List.append_assoc]; simp only [List.flatten_cons, List.flatten_nil, List.append_nil]; rfl
    · rw [h1]; simp
  have hh := headB_len (four := four) hpok
  have hhd : headB four a = attB 64 1 [ofI .u8 (IntKind.wrap .u8 a.origin)] ++ (attB 64 2 (encPath four a.path) ++ attB 64 3 (be4 a.next.toNat)) := rfl
  have hhl : (headB four a).length = (attB 64 1 [ofI .u8 (IntKind.wrap .u8 a.origin)]).length + ((attB 64 2 (encPath four a.path)).length + (attB 64 3 (be4 a.next.toNat)).length) := by rw [hhd]; simp only [List.length_append]
  have hp := perhB_len four a
  have f1 : flagOf 1 = 64 := rfl
  have f2 : flagOf 2 = 64 := rfl
  have f3 : flagOf 3 = 64 := rfl
  have e1 : ∀ x : List UInt8, [x].flatten = x := fun x => by simp
  refine fun _ => usual_c [] 1 _ _ (.inl rfl) (by simp) (by simp) (by simp) fun _ _ _ => ?_
  rw [e1, f1, List.nil_append]
  refine fun _ => usual_c _ 2 _ _ (.inl rfl) (by simp) (by rw [e1]; (dsimp only [Attrs.origin, Attrs.path, Attrs.next, Attrs.hasMed, Attrs.med, Attrs.hasLocal, Attrs.loc, Attrs.atomic, Attrs.hasMaker, Attrs.makerAS, Attrs.maker, Attrs.comms, Attrs.others] at *; omega)) (by (dsimp only [Attrs.origin, Attrs.path, Attrs.next, Attrs.hasMed, Attrs.med, Attrs.hasLocal, Attrs.loc, Attrs.atomic, Attrs.hasMaker, Attrs.makerAS, Attrs.maker, Attrs.comms, Attrs.others] at *; omega)) fun _ _ _ => ?_
  rw [e1, f2]
  refine num_c _ _ fun _ _ _ => usual_c _ 3 _ _ (.inl rfl) (by simp) (by rw [e1, be4_length]; decide) (by simp only [List.length_append]; (dsimp only [Attrs.origin, Attrs.path, Attrs.next, Attrs.hasMed, Attrs.med, Attrs.hasLocal, Attrs.loc, Attrs.atomic, Attrs.hasMaker, Attrs.makerAS, Attrs.maker, Attrs.comms, Attrs.others] at *; omega)) fun _ _ => ?_
  rw [e1, f3, List.append_assoc]
  rw [← hhd]
  refine fun _ _ => perhaps_c _ a four _ (by (dsimp only [Attrs.origin, Attrs.path, Attrs.next, Attrs.hasMed, Attrs.med, Attrs.hasLocal, Attrs.loc, Attrs.atomic, Attrs.hasMaker, Attrs.makerAS, Attrs.maker, Attrs.comms, Attrs.others] at *; omega)) (by (dsimp only [Attrs.origin, Attrs.path, Attrs.next, Attrs.hasMed, Attrs.med, Attrs.hasLocal, Attrs.loc, Attrs.atomic, Attrs.hasMaker, Attrs.makerAS, Attrs.maker, Attrs.comms, Attrs.others] at *; omega)) fun _ _ => ?_
  have hfin : K ((headB four a ++ perhB four a) ++ ((if !four && greatP a.path then attB 192 17 (encPath true a.path) else []) ++ ((if !four && (a.hasMaker && bigAS a.makerAS) then attB 192 18 (be4 a.makerAS.toNat ++ be4 a.maker.toNat) else []) ++ othersB a.others))) 0 := by
    have e : attrsB four a = (headB four a ++ perhB four a) ++ ((if !four && greatP a.path then attB 192 17 (encPath true a.path) else []) ++ ((if !four && (a.hasMaker && bigAS a.makerAS) then attB 192 18 (be4 a.makerAS.toNat ++ be4 a.maker.toNat) else []) ++ othersB a.others)) := by
      unfold attrsB oldB
      simp only [List.append_assoc]
    rw [← e]
    exact h
  refine IfB.intro (fun h1 _ => great_c a.path _ hl hs fun _ => s1 _ _ (by simp only [List.length_append]; (dsimp only [Attrs.origin, Attrs.path, Attrs.next, Attrs.hasMed, Attrs.med, Attrs.hasLocal, Attrs.loc, Attrs.atomic, Attrs.hasMaker, Attrs.makerAS, Attrs.maker, Attrs.comms, Attrs.others] at *; omega)) (of_eq2 hfin ?_)) (fun h1 => s1 _ _ (by simp only [List.length_append]; (dsimp only [Attrs.origin, Attrs.path, Attrs.next, Attrs.hasMed, Attrs.med, Attrs.hasLocal, Attrs.loc, Attrs.atomic, Attrs.hasMaker, Attrs.makerAS, Attrs.maker, Attrs.comms, Attrs.others] at *; omega)) (of_eq2 hfin ?_))
  · rw [h1]; rfl
  · rw [h1]; rfl
end Go.Proofs.YtboagabgpcghcaaGreatDoor
namespace Go.Proofs.YtboagabgpcghcaaGreatDoor
open Go.Sh
end Go.Proofs.YtboagabgpcghcaaGreatDoor
set_option linter.unusedVariables false
set_option linter.unusedSimpArgs false
namespace Go.Proofs.YtboagabgpcghcaaGreatDoor
open Go.Sh
abbrev Pf := UInt32 × Int
def rightP (p : Pf) : Bool := right p.1.toNat p.2
def octs (n : Int) : Nat := (n.toNat + 7) / 8
def prefB (p : Pf) : List UInt8 := ofI .u8 (IntKind.wrap .u8 p.2) :: (be4 p.1.toNat).take (octs p.2)
def putsB (l : List Pf) : List UInt8 := l.flatMap prefB
theorem rightP_len {p : Pf} (h : rightP p = true) : 0 ≤ p.2 ∧ p.2 ≤ 32 := by
  have := right_iff.1 h
  exact ⟨this.1, this.2.1⟩
theorem octs_le {p : Pf} (h : rightP p = true) : octs p.2 ≤ 4 := by
  have := rightP_len h
  unfold octs; omega
theorem prefB_le (p : Pf) : (prefB p).length ≤ 5 := by
  unfold prefB
  rw [List.length_cons, List.length_take, be4_length]
  omega
theorem putsB_le : ∀ l : List Pf, (putsB l).length ≤ 5 * l.length
  | [] => by simp [putsB]
  | p :: l => by
    have h1 := putsB_le l
    have h2 := prefB_le p
    have e : putsB (p :: l) = prefB p ++ putsB l := rfl
    rw [e, List.length_append, List.length_cons]
    omega
theorem putsB_snoc (l : List Pf) (p : Pf) : putsB (l ++ [p]) = putsB l ++ prefB p := by simp [putsB]
theorem octets_c (p : Pf) (K : Int → Prop) (hp : rightP p = true) (h : K (octs p.2 : Nat)) : upd_octets_q p.2 K := by
  have := rightP_len hp
  unfold upd_octets_q
  refine ⟨by decide, of_eq h ?_⟩
  rw [wr_i64 (n := p.2 + 8) (by omega) (by omega), wr_i64 (n := p.2 + 8 - 1) (by omega) (by omega), Int.tdiv_eq_ediv_of_nonneg (by omega), wr_i64 (by omega) (by omega)]
  unfold octs; omega
theorem be4_step (a i : Nat) (hi : i < 4) (x : UInt8) (h : (be4 a)[i]? = some x) : (be4 a).take (i + 1) = (be4 a).take i ++ [x] := by
  rw [List.take_add_one, h]; rfl
theorem be4_at (a i : Nat) (hi : i < 4) : (be4 a)[i]? = some (UInt8.ofNat (a / 2 ^ (24 - 8 * i))) := by
  match i, hi with
  | 0, _ => rfl
  | 1, _ => rfl
  | 2, _ => rfl
  | 3, _ => simp [be4]
theorem fdiv_pow (a k : Nat) : Int.fdiv (a : Int) (2 ^ k) = ((a / 2 ^ k : Nat) : Int) := by
  rw [Int.fdiv_eq_ediv_of_nonneg _ (Int.le_of_lt (Int.pow_pos (by decide)))]
  norm_cast
theorem upd_put_c (l : List Pf) (K : List UInt8 → Bool → Prop) (hl : l.length ≤ 1000000000) (h : K (if l.all rightP then putsB l else []) (l.all rightP)) : upd_put_q l K := by
  unfold upd_put_q
  refine LoopJ.over l (fun pre => (putsB pre, (pre.length : Int), ())) (fun pre => pre.all rightP = true) rfl rfl (fun pre p post hp hn hP next hx => ?_) (fun hP next _ => ?_)
  · intro _
    dsimp only [upd_put_l3]
    have hb := putsB_le pre
    refine ifT (decide_eq_true (by omega)) ⟨by omega, AtN.of (at_pre hp) fun _ => ?_⟩
    rw [ofI_u32]
    refine fun _ => right_c p.1 p.2 _ fun _ => IfB.intro (fun h1 => ?_) (fun h1 => ?_)
    · have h1' : rightP p = false := by simpa [rightP] using h1
      have e : l.all rightP = false := by rw [hp]; simp [h1']
      rw [e] at h
      exact h
    · have h1' : rightP p = true := by simpa [rightP] using h1
      have ho := octs_le h1'
      refine ⟨by simp; omega, fun _ => octets_c p _ h1' fun _ => ?_⟩
      refine LoopJ.up (octs p.2) (fun i => (putsB pre ++ ofI .u8 (IntKind.wrap .u8 p.2) :: (be4 p.1.toNat).take i, (i : Int), ())) (fun _ => True) (by simp) trivial (fun i hi _ next' hy => ?_) (fun _ next' => ?_)
      · intro _
        dsimp only [upd_put_l9]
        have hw : IntKind.wrap .i64 (24 - IntKind.wrap .i64 (8 * (i : Int))) = ((24 - 8 * i : Nat) : Int) := by
          rw [wr_i64 (n := 8 * (i : Int)) (by omega) (by omega), wr_i64 (by omega) (by omega)]; omega
        have hm : (min ((24 - 8 * i : Nat) : Int).toNat (IntKind.bits .u32)) = 24 - 8 * i := by
          have : IntKind.bits .u32 = 32 := rfl
          rw [Int.toNat_natCast, this]; omega
        have ht : ((be4 p.1.toNat).take i).length ≤ 4 := by rw [List.length_take, be4_length]; omega
        rw [hw, hm]
        refine ifT (decide_eq_true (by omega)) ⟨by omega, by simp; omega, of_eq (hy trivial) ?_⟩
        rw [fdiv_pow, of8w, wr_i64 (by omega) (by omega), be4_step _ i (by omega) _ (be4_at _ i (by omega))]
        simp
      · intro _
        dsimp only [upd_put_l9]
        refine ifF (decide_eq_false (by omega)) (of_eq (hx ?_) ?_)
        · simp [hP, h1']
        · rw [putsB_snoc, wr_i64 (by omega) (by omega)]
          simp [prefB]
  · dsimp only [upd_put_l3]
    refine ifF (decide_eq_false (by omega)) ?_
    rw [hP, if_pos rfl] at h
    exact h
end Go.Proofs.YtboagabgpcghcaaGreatDoor
set_option linter.unusedVariables false
set_option linter.unusedSimpArgs false
namespace Go.Proofs.YtboagabgpcghcaaGreatDoor
open Go.Sh
abbrev Upd := List Pf × List Pf × Int × List Seg × UInt32 × Bool × UInt32 × Bool × UInt32 × Bool × Bool × UInt32 × UInt32 × List UInt32 × List Raw × Int
def updAttrs (u : Upd) : Attrs := (u.2.2.1, u.2.2.2.1, u.2.2.2.2.1, u.2.2.2.2.2.1, u.2.2.2.2.2.2.1, u.2.2.2.2.2.2.2.1, u.2.2.2.2.2.2.2.2.1, u.2.2.2.2.2.2.2.2.2.1, u.2.2.2.2.2.2.2.2.2.2.1, u.2.2.2.2.2.2.2.2.2.2.2.1, u.2.2.2.2.2.2.2.2.2.2.2.2.1, u.2.2.2.2.2.2.2.2.2.2.2.2.2.1, u.2.2.2.2.2.2.2.2.2.2.2.2.2.2.1)
structure FitA (a : Attrs) : Prop where
  p1 : a.path.length ≤ 9223372036854775807
  p2 : cnt a.path ≤ 9223372036854775807
  p3 : ∀ s ∈ a.path, s.2.length ≤ 9223372036854775807
  o1 : a.others.length ≤ 9223372036854775807
def bodyF (w a t : List UInt8) : List UInt8 × Int :=
  if 4073 < w.length + a.length + t.length then ([], 3) else (be2 w.length ++ w ++ (be2 a.length ++ a ++ t), 0)
def updR (u : Upd) (four : Bool) : List UInt8 × Int :=
  if u.1.all rightP && u.2.1.all rightP then
    if 0 < u.2.1.length then (if attrsOk (updAttrs u) then bodyF (putsB u.1) (attrsB four (updAttrs u)) (putsB u.2.1) else ([], 2))
    else bodyF (putsB u.1) [] (putsB u.2.1)
  else ([], 2)
theorem path_le {four : Bool} {p : List Seg} (hok : pathOk p = true) : (encPath four p).length ≤ 384 := by
  simp only [pathOk, Bool.and_eq_true, decide_eq_true_eq] at hok
  have h1 := parts_len p hok.1
  have h2 := encPath_len four p
  omega
theorem attrsB_le {four : Bool} {a : Attrs} (h : attrsOk a = true) : (attrsB four a).length ≤ 3500 := by
  simp only [attrsOk, Bool.and_eq_true, decide_eq_true_eq, Bool.not_eq_true'] at h
  obtain ⟨⟨⟨⟨⟨⟨_, _⟩, hpok⟩, _⟩, _⟩, hcm⟩, hoth, hol⟩ := h
  have hp1 := path_le (four := four) hpok
  have hp2 := path_le (four := true) hpok
  have ho := othersB_len a.others (-1) hoth
  have hp := perhB_len four a
  have a1 := attB_len 64 1 [ofI .u8 (IntKind.wrap .u8 a.origin)]
  have a2 := attB_len 64 2 (encPath four a.path)
  have a3 := attB_len 64 3 (be4 a.next.toNat)
  have a4 := attB_len 192 17 (encPath true a.path)
  have a5 := attB_len 192 18 (be4 a.makerAS.toNat ++ be4 a.maker.toNat)
  unfold attrsB headB oldB
  simp only [List.length_append, be4_length, List.length_cons, List.length_nil] at *
  split <;> split <;> (try simp only [List.length_nil]) <;> omega
theorem not_t {x : Bool} (h : true = !x) : x = false := by cases x <;> simp_all
theorem not_f {x : Bool} (h : false = !x) : x = true := by cases x <;> simp_all
theorem be2_i (n : Nat) : ([ofI .u8 (IntKind.wrap .u8 (Int.fdiv (n : Int) 256)), ofI .u8 (IntKind.wrap .u8 (n : Int))] : List UInt8) = be2 n := by
  rw [fdiv_1, of8w, of8w]; rfl
theorem sized_c (b : List UInt8) (K : List UInt8 → Prop) (hl : b.length ≤ 100000000) (h : K (be2 b.length ++ b)) : upd_sized_q b K := by
  unfold upd_sized_q
  rw [be2_i]
  exact ⟨by decide, fun _ => concat_c _ _ (by simp) (by simp [be2_length]; omega) fun _ => of_eq h (by simp)⟩
theorem upd_j1 (w t a : List UInt8) (K : List UInt8 → Int → Prop) (hw : w.length ≤ 10000000000) (ht : t.length ≤ 10000000000) (ha : a.length ≤ 10000000000) (h : K (bodyF w a t).1 (bodyF w a t).2) : upd_Build_j1 w t a K := by
  unfold upd_Build_j1
  rw [wr_i64 (n := (w.length : Int) + a.length) (by omega) (by omega), wr_i64 (n := (w.length : Int) + a.length + t.length) (by omega) (by omega), wr_i64 (by omega) (by omega)]
  unfold bodyF at h
  refine IfB.intro (fun h1 => ?_) (fun h1 => ?_)
  · have h1 : 4073 < w.length + a.length + t.length := by have := of_decide_eq_true h1; omega
    rw [if_pos h1] at h; exact h
  · have h1 : ¬ 4073 < w.length + a.length + t.length := by have := of_decide_eq_false h1; omega
    rw [if_neg h1] at h
    refine fun _ => sized_c w _ (by omega) fun _ _ => sized_c a _ (by omega) fun _ _ => concat_c _ _ (by simp) (by simp [be2_length]; omega) fun _ => of_eq2 h ?_
    simp
theorem upd_Build_c (u : Upd) (four : Bool) (K : List UInt8 → Int → Prop) (h1 : u.1.length ≤ 1000000000) (h2 : u.2.1.length ≤ 1000000000) (hf : FitA (updAttrs u)) (h : K (updR u four).1 (updR u four).2) : upd_Build_q u four K := by
  unfold upd_Build_q
  have b1 := putsB_le u.1
  have b2 := putsB_le u.2.1
  have key : ∀ j, (j = !(u.1.all rightP && u.2.1.all rightP)) → upd_Build_j0 four u (if u.1.all rightP then putsB u.1 else []) (if u.2.1.all rightP then putsB u.2.1 else []) j K := fun j hj => by
    unfold upd_Build_j0
    simp only [ofI_u32]
    unfold updR at h
    refine IfB.intro (fun h3 => ?_) (fun h3 => ?_)
    · have : (u.1.all rightP && u.2.1.all rightP) = false := not_t (h3 ▸ hj)
      rw [this] at h; exact h
    · have e : (u.1.all rightP && u.2.1.all rightP) = true := not_f (h3 ▸ hj)
      rw [e, if_pos rfl] at h
      obtain ⟨e1, e2⟩ := Bool.and_eq_true_iff.1 e
      rw [e1, e2, if_pos rfl, if_pos rfl]
      refine IfB.intro (fun h4 _ => ?_) (fun h4 => ?_)
      · have h4 : 0 < u.2.1.length := by have := of_decide_eq_true h4; omega
        rw [if_pos h4] at h
        refine attr_Put_c (updAttrs u) four _ hf.p1 hf.p2 hf.p3 hf.o1 fun _ => ?_
        rw [errIf_ne]
        refine IfB.intro (fun h5 => ?_) (fun h5 => ?_)
        · have h5 : attrsOk (updAttrs u) = false := by simpa using h5
          rw [h5] at h ⊢; exact h
        · have h5 : attrsOk (updAttrs u) = true := by simpa using h5
          rw [h5, if_pos rfl] at h ⊢
          have hal := attrsB_le (four := four) h5
          exact upd_j1 _ _ _ K (by omega) (by omega) (by omega) h
      · have h4 : ¬ 0 < u.2.1.length := by have := of_decide_eq_false h4; omega
        rw [if_neg h4] at h
        exact upd_j1 _ _ _ K (by omega) (by omega) (by simp) h
  refine fun _ => upd_put_c _ _ h1 fun _ _ => upd_put_c _ _ h2 fun _ => ?_
  refine IfB.intro (fun h3 => key true ?_) (fun h3 => key _ ?_)
  · have : u.1.all rightP = false := by simpa using h3
    rw [this]; rfl
  · have : u.1.all rightP = true := by simpa using h3
    rw [this]; rfl
end Go.Proofs.YtboagabgpcghcaaGreatDoor
namespace Go.Proofs.YtboagabgpcghcaaGreatDoor
open Go.Sh
end Go.Proofs.YtboagabgpcghcaaGreatDoor
set_option linter.unusedSectionVars false
set_option linter.unusedSimpArgs false
set_option linter.unusedVariables false
namespace Go.Proofs.YtboagabgpcghcaaGreatDoor
open Go.Sh
def isOct (w : List UInt8) : Bool := decide (val w ≤ 255) && (Lib.decDigits (val w) == w)
theorem isOct_iff {w : List UInt8} : isOct w = true ↔ val w ≤ 255 ∧ Lib.decDigits (val w) = w := by simp [isOct]
theorem oct_len {w : List UInt8} (h : isOct w = true) : w.length ≤ 3 := by
  obtain ⟨h1, h2⟩ := isOct_iff.1 h
  have := dec_len (u := val w) (k := 2) (by omega)
  rw [h2] at this; exact this
def pv (l : List (List UInt8)) : Nat := l.foldl (fun a w => a * 256 + val w) 0
theorem pv_snoc (l : List (List UInt8)) (w : List UInt8) : pv (l ++ [w]) = pv l * 256 + val w := by simp [pv]
def prs (s : List UInt8) : Nat × Int := if (spl 46 s).length = 4 ∧ (spl 46 s).all isOct = true then (pv (spl 46 s), 0) else (0, 2)
theorem spl_len (c : UInt8) (s : List UInt8) : (spl c s).length ≤ s.length + 1 := by
  have h := Lib.splitB_length_le ⟨#[c]⟩ 0 (s.count c) ⟨s.toArray⟩
  have h2 := congrArg List.length (Lib.splitB_data ⟨#[c]⟩ 0 (s.count c) ⟨s.toArray⟩)
  have h3 := split_spl c (s.count c) s rfl
  have h4 : s.count c ≤ s.length := List.count_le_length
  rw [List.length_map] at h2
  have h5 : (Lib.splitK [c] 0 (s.count c) s).length = (spl c s).length := by rw [h3]
  have h6 : (Lib.splitK (ByteArray.mk #[c]).data.toList 0 (s.count c) (ByteArray.mk s.toArray).data.toList) = Lib.splitK [c] 0 (s.count c) s := by simp
  rw [h6, h5] at h2
  omega
theorem spl_part {c : UInt8} {s w : List UInt8} (h : w ∈ spl c s) : w.length ≤ s.length := by
  rw [← libSplit_spl] at h
  exact splitK_len _ _ _ _ h
theorem canon_oct {w : List UInt8} : isOct w = true ↔ canon w ∧ w.length ≤ 3 ∧ val w ≤ 255 := by
  constructor
  · intro h
    have := isOct_iff.1 h
    exact ⟨canon_iff.2 this.2, oct_len h, this.1⟩
  · intro ⟨h1, h2, h3⟩
    exact isOct_iff.2 ⟨h3, canon_iff.1 h1⟩
theorem whole_c (s : List UInt8) (n : Nat) (K : Int → Bool → Prop) (hn : n ≤ 18) (h1 : canon s → s.length ≤ n → K (val s) true) (h2 : ¬ (canon s ∧ s.length ≤ n) → K 0 false) : base_Whole_q s n K := by
  unfold base_Whole_q
  refine IfB.intro (fun h => ?_) (fun h => ?_)
  · refine ifT rfl (h2 fun hc => ?_)
    exact hc.1.1 (by simpa using h)
  have hne : s ≠ [] := by simpa using h
  refine IfB.intro (fun h => ?_) (fun h => ?_)
  · exact ifT rfl (h2 fun hc => by simp at h; omega)
  have hl : s.length ≤ n := by simp at h; omega
  have hj : ∀ b : Bool, (b = true → 1 < s.length ∧ s[0]? = some 48) → (b = false → 1 < s.length → s[0]? ≠ some 48) → base_Whole_j0 s b K := by
    intro b hb1 hb2
    unfold base_Whole_j0
    refine IfB.intro (fun hb => h2 fun hc => hc.1.2.2 (hb1 hb).1 (hb1 hb).2) (fun hb => ?_)
    have hz := hb2 hb
    refine LoopJ.over s (fun pre => ((val pre : Int), (pre.length : Int), ())) (fun pre => (∀ x ∈ pre, 48 ≤ x.toNat ∧ x.toNat ≤ 57) ∧ val pre < 10 ^ pre.length) rfl ⟨by simp, by decide⟩ (fun pre x post hp hnn hP next hx => ?_) (fun hP next => ?_)
    · intro _
      dsimp only [base_Whole_l5]
      have hx0 : s[((pre.length : Nat) : Int).toNat]? = some x := at_pre hp
      have hb8 := u8_lt x
      have hpw : 10 ^ pre.length ≤ 10 ^ 17 := Nat.pow_le_pow_right (by decide) (by omega)
      refine ifT (decide_eq_true (by omega)) ⟨by omega, AtN.of hx0 (IfB.intro (fun hd => ?_) (fun hd => ⟨by omega, AtN.of hx0 ?_⟩))⟩
      · unfold base_Whole_j1
        refine ifT rfl (h2 fun hc => ?_)
        have := hc.1.2.1 x (by rw [hp]; simp)
        simp at hd; omega
      · have hd1 : 48 ≤ x.toNat := by simp at hd; omega
        unfold base_Whole_j1
        refine IfB.intro (fun hd2 => h2 fun hc => ?_) (fun hd2 => ⟨by omega, AtN.of hx0 (of_eq (hx ⟨fun y hy => ?_, ?_⟩) ?_)⟩)
        · have := hc.1.2.1 x (by rw [hp]; simp)
          simp at hd2; omega
        · rcases List.mem_append.1 hy with hy | hy
          · exact hP.1 y hy
          · simp only [List.mem_singleton] at hy
            subst hy
            simp at hd2; omega
        · rw [val_snoc, List.length_append, List.length_singleton, Nat.pow_succ]
          have := hP.2
          simp at hd2; omega
        · have hd2 : x.toNat ≤ 57 := by simp at hd2; omega
          have := hP.2
          have e0 : IntKind.wrap .i64 (10 * (val pre : Int)) = ((10 * val pre : Nat) : Int) := by rw [wr_i64 (by omega) (by omega)]; omega
          have e2 : IntKind.wrap .i64 ((pre.length : Int) + 1) = ((pre.length + 1 : Nat) : Int) := by rw [wr_i64 (by omega) (by omega)]; omega
          rw [val_snoc, show ((x.toNat : Int) - 48) = ((x.toNat - 48 : Nat) : Int) by omega, wu8m, wi64n _ (by omega), e0, e2, ← Int.natCast_add, wi64n _ (by omega)]
          have e1 : 10 * val pre + (x.toNat - 48) % 256 = 10 * val pre + (x.toNat - 48) := by omega
          rw [e1]; simp
    · intro _
      dsimp only [base_Whole_l5]
      exact ifF (decide_eq_false (by omega)) (h1 ⟨hne, hP.1, hz⟩ hl)
  refine IfB.intro (fun h => ?_) (fun h => hj false (fun h => by cases h) (fun _ h3 => by simp at h; omega))
  have hp0 : 0 < s.length := List.length_pos_iff.2 hne
  have e0 : s[0]? = some s[0] := List.getElem?_eq_getElem hp0
  refine ⟨by decide, AtN.of e0 (hj _ (fun hb => ⟨by simp at h; omega, ?_⟩) (fun hb _ => ?_))⟩
  · rw [e0]; simp at hb
    have : s[0] = 48 := UInt8.toNat_inj.1 (by have : (48 : UInt8).toNat = 48 := rfl; omega)
    rw [this]
  · rw [e0]; simp at hb
    intro e
    injection e with e
    rw [e] at hb
    exact hb rfl
theorem splG_end (c : UInt8) (s : List UInt8) : ∃ t, s = t ++ (splG c ([], []) s).2 := by
  have : ∀ k (s : List UInt8), s.length = k → ∃ t, s = t ++ (splG c ([], []) s).2 := by
    intro k
    induction k with
    | zero => intro s h; exact ⟨[], by rw [List.eq_nil_of_length_eq_zero h]; rfl⟩
    | succ k ih =>
      intro s h
      rcases List.eq_nil_or_concat s with rfl | ⟨u, x, rfl⟩
      · simp at h
      · rw [List.concat_eq_append] at *
        obtain ⟨t, ht⟩ := ih u (by simp at h; omega)
        rw [splG_snoc]
        unfold splF
        split
        · exact ⟨u ++ [x], by simp⟩
        · refine ⟨t, ?_⟩
          dsimp only
          rw [← List.append_assoc, ← ht]
  exact this _ s rfl
theorem splG_len (c : UInt8) (s : List UInt8) : (splG c ([], []) s).1.length ≤ s.length := by
  have := spl_len c s
  simp only [spl, List.length_append, List.length_singleton] at this
  omega
theorem split_c (s : List UInt8) (c : UInt8) (K : List (List UInt8) → Prop) (hl : s.length ≤ 1000000) (hk : K (spl c s)) : base_Split_q s (c.toNat : Int) K := by
  unfold base_Split_q
  have hst : ∀ pre : List UInt8, (splG c ([], []) pre).2.length ≤ pre.length ∧ pre.drop (pre.length - (splG c ([], []) pre).2.length) = (splG c ([], []) pre).2 := by
    intro pre
    obtain ⟨t, ht⟩ := splG_end c pre
    have h1 : pre.length = t.length + (splG c ([], []) pre).2.length := by conv => lhs; rw [ht, List.length_append]
    refine ⟨by omega, ?_⟩
    rw [show pre.length - (splG c ([], []) pre).2.length = t.length by omega]
    conv => lhs; rw [ht]
    exact List.drop_left
  refine LoopJ.over s (fun pre => ((splG c ([], []) pre).1, ((pre.length - (splG c ([], []) pre).2.length : Nat) : Int), (pre.length : Int), ())) (fun _ => True) rfl trivial (fun pre x post hp hn _ next hx => ?_) (fun _ next => ?_)
  · intro _
    dsimp only [base_Split_l4]
    have ht : s.take ((pre.length : Nat) : Int).toNat = pre := by rw [hp]; simp
    obtain ⟨h1, h2⟩ := hst pre
    have h3 := splG_len c pre
    refine ifT (decide_eq_true (by omega)) ⟨by omega, AtN.of (at_pre hp) (IfB.intro (fun he => ⟨by omega, by omega, by omega, by omega, ?_, ?_⟩) (fun he => ?_))⟩
    · simp only [List.length_singleton]; omega
    · have he : x = c := UInt8.toNat_inj.1 (by simp at he; omega)
      unfold base_Split_j0
      rw [ht, Int.toNat_natCast, h2]
      refine of_eq (hx trivial) ?_
      rw [splG_snoc, splF, if_pos he, wr_i64 (by omega) (by omega)]
      simp
    · have he : x ≠ c := fun e => by subst e; simp at he
      unfold base_Split_j0
      refine of_eq (hx trivial) ?_
      rw [splG_snoc, splF, if_neg he, wr_i64 (by omega) (by omega)]
      simp
  · intro _
    dsimp only [base_Split_l4]
    obtain ⟨h1, h2⟩ := hst s
    have h3 := splG_len c s
    refine ifF (decide_eq_false (by omega)) ⟨by omega, by omega, ?_, ?_⟩
    · simp only [List.length_singleton]; omega
    · rw [Int.toNat_natCast, h2]; exact hk
theorem prs_long {s : List UInt8} (h : 15 < s.length) : prs s = (0, 2) := by
  unfold prs
  rw [if_neg]
  intro ⟨h4, ho⟩
  have hj := join_spl 46 s
  generalize spl 46 s = l at *
  match l, h4 with
  | [a, b, c, d], _ =>
    simp only [List.all_cons, List.all_nil, Bool.and_true, Bool.and_eq_true] at ho
    have h1 := oct_len ho.1; have h2 := oct_len ho.2.1; have h3 := oct_len ho.2.2.1; have h4 := oct_len ho.2.2.2
    have := congrArg List.length hj
    simp only [Lib.join, List.intercalate, List.intersperse, List.flatten_cons, List.flatten_nil, List.length_append, List.length_cons, List.length_nil] at this
    omega
theorem ref_parse_c (s : List UInt8) (K : Int → Int → Prop) (hl : s.length ≤ 1000000) (hk : K (prs s).1 (prs s).2) : ref07_Parse_q s K := by
  unfold ref07_Parse_q
  refine IfB.intro (fun h => ?_) (fun h => ?_)
  · rw [prs_long (by simp at h; omega)] at hk; exact hk
  intro _
  refine split_c s 46 _ (by omega) fun _ => ?_
  have hbad : ¬ ((spl 46 s).length = 4 ∧ (spl 46 s).all isOct = true) → K 0 2 := fun h => by rw [prs, if_neg h] at hk; exact hk
  have hok : (spl 46 s).length = 4 → (spl 46 s).all isOct = true → K (pv (spl 46 s)) 0 := fun h1 h2 => by rw [prs, if_pos ⟨h1, h2⟩] at hk; exact hk
  generalize spl 46 s = l at *
  refine IfB.intro (fun h => hbad fun h4 => by simp at h; omega) (fun h => ?_)
  have h4 : l.length = 4 := by simp at h; omega
  refine LoopJ.over l (fun pre => ((pv pre : Int), (pre.length : Int), ())) (fun pre => pre.all isOct = true ∧ pv pre < 256 ^ pre.length) rfl ⟨rfl, by decide⟩ (fun pre w post hp hn hP next hx => ?_) (fun hP next => ?_)
  · intro _
    dsimp only [ref07_Parse_l8]
    have hno : isOct w = false → K 0 2 := fun ho => hbad fun h5 => by
      have := List.all_eq_true.1 h5.2 w (by rw [hp]; simp)
      rw [ho] at this; cases this
    refine ifT (decide_eq_true (by omega)) ⟨by omega, by omega, AtN.of (at_pre hp) fun _ _ => ?_⟩
    refine whole_c w 3 _ (by decide) (fun hc hl3 _ => ifF rfl ?_) (fun hc _ => ifT rfl (ifT rfl (hno ?_)))
    · unfold ref07_Parse_j0
      refine IfB.intro (fun h => hno ?_) (fun h => ?_)
      · cases ho : isOct w with
        | false => rfl
        | true => have := (canon_oct.1 ho).2.2; simp at h; omega
      · have hv : val w ≤ 255 := by simp at h; omega
        have ho : isOct w = true := canon_oct.2 ⟨hc, hl3, hv⟩
        have hb : pv pre < 16777216 := by
          have h7 : pre.length ≤ 3 := by omega
          have : 256 ^ pre.length ≤ 256 ^ 3 := Nat.pow_le_pow_right (by decide) h7
          omega
        refine of_eq (hx ⟨by rw [List.all_append, hP.1]; simp [ho], ?_⟩) ?_
        · rw [pv_snoc, List.length_append, List.length_singleton, Nat.pow_succ]
          have := hP.2
          omega
        · rw [pv_snoc, show 256 * ((pv pre : Nat) : Int) = ((pv pre * 256 : Nat) : Int) by omega, wu32 (by omega), wu32 (by omega), ← Int.natCast_add, wu32 (by omega), wr_i64 (by omega) (by omega)]
          simp
    · cases ho : isOct w with
      | false => rfl
      | true => exact absurd ⟨(canon_oct.1 ho).1, (canon_oct.1 ho).2.1⟩ hc
  · intro _
    dsimp only [ref07_Parse_l8]
    exact ifF (decide_eq_false (by omega)) (hok h4 hP.1)
end Go.Proofs.YtboagabgpcghcaaGreatDoor
set_option linter.unusedSectionVars false
set_option linter.unusedSimpArgs false
set_option linter.unusedVariables false
namespace Go.Proofs.YtboagabgpcghcaaGreatDoor
open Go.Sh
def isNum (m : Nat) (w : List UInt8) : Bool := decide (val w ≤ m) && (Lib.decDigits (val w) == w)
theorem isNum_iff {m : Nat} {w : List UInt8} : isNum m w = true ↔ val w ≤ m ∧ Lib.decDigits (val w) = w := by simp [isNum]
theorem isNum_canon {m : Nat} {w : List UInt8} : isNum m w = true ↔ val w ≤ m ∧ canon w := by rw [isNum_iff, canon_iff]
theorem isNum_no {m : Nat} {w : List UInt8} {c : UInt8} (h : isNum m w = true) (hc : c.toNat < 48 ∨ 57 < c.toNat) : c ∉ w := fun hm => by
  have := (isNum_canon.1 h).2.2.1 c hm
  omega
theorem itoa_num {v : Int} {s : List UInt8} (h0 : 0 ≤ v) (h : Lib.itoa v = s) : v = (val s : Nat) ∧ Lib.decDigits (val s) = s := by
  obtain ⟨n, rfl⟩ := Int.eq_ofNat_of_zero_le h0
  rw [itoa_nat] at h
  have hv : val s = n := by rw [← h, val_dec]
  exact ⟨by omega, by rw [hv]; exact h⟩
theorem atoi_num {m : Nat} {s : List UInt8} (hm : m < 9223372036854775808) (h : isNum m s = true) : Lib.atoiAll s = .ok (val s : Int) := by
  obtain ⟨h3, h4⟩ := isNum_iff.1 h
  have := atoi_dec (u := val s) (by omega)
  rwa [h4] at this
theorem number_c (s : List UInt8) (m : Nat) (K : Int → Prop) (hm : m < 9223372036854775808) (hl : s.length ≤ 281474976710656) (h1 : isNum m s = true → K (val s)) (h2 : isNum m s = false → ∀ v : Int, (v < 0 ∨ v > m) → K v) : upd_number_q s K := by
  have hN : ∀ v : Int, Lib.atoiAll s = .ok v → v ≠ (val s : Int) → isNum m s = false := fun v hv hne => by
    cases ho : isNum m s with
    | false => rfl
    | true => rw [atoi_num hm ho] at hv; injection hv with hv; exact absurd hv.symm hne
  have hno : (∀ v, Lib.atoiAll s ≠ .ok v) → upd_number_j0 0 true K := fun h => ifT rfl (h2 (by
    cases ho : isNum m s with
    | false => rfl
    | true => exact absurd (atoi_num hm ho) (h _)) _ (.inl (by decide)))
  unfold upd_number_q
  intro _
  unfold strconv_Atoi_q
  refine ⟨hl, fun _ => ?_⟩
  cases ha : Lib.atoiAll s with
  | ok v =>
    simp only [atoiR, ha]
    refine ifF rfl fun _ => ?_
    unfold strconv_Itoa_q
    intro _
    unfold upd_number_j0
    refine IfB.intro (fun h => ?_) (fun h => ?_)
    · refine h2 ?_ _ (.inl (by decide))
      cases ho : isNum m s with
      | false => rfl
      | true =>
        rw [atoi_num hm ho] at ha
        injection ha with ha
        subst ha
        rw [itoa_nat, (isNum_iff.1 ho).2] at h
        simp at h
    · have hs : Lib.itoa v = s := by simpa using h
      by_cases h0 : 0 ≤ v
      · obtain ⟨h3, h4⟩ := itoa_num h0 hs
        by_cases h5 : val s ≤ m
        · have := h1 (isNum_iff.2 ⟨h5, h4⟩)
          rwa [← h3] at this
        · refine h2 ?_ v (.inr (by omega))
          cases ho : isNum m s with
          | false => rfl
          | true => exact absurd (isNum_iff.1 ho).1 h5
      · exact h2 (hN v ha (by omega)) v (.inl (by omega))
  | range =>
    simp only [atoiR, ha]
    exact ifT rfl (hno fun v e => by rw [ha] at e; cases e)
  | _ =>
    simp only [atoiR, ha]
    exact ifT rfl (hno fun v e => by rw [ha] at e; cases e)
theorem mem_cut {c : UInt8} {s : List UInt8} (h : c ∈ s) : ∃ pre rest, s = pre ++ c :: rest ∧ c ∉ pre := by
  induction s with
  | nil => simp at h
  | cons x s ih =>
    by_cases e : x = c
    · subst e; exact ⟨[], s, rfl, by simp⟩
    · have hm : c ∈ s := by
        rcases List.mem_cons.1 h with h | h
        · exact absurd h.symm e
        · exact h
      obtain ⟨pre, rest, rfl, hp⟩ := ih hm
      exact ⟨x :: pre, rest, rfl, by simp only [List.mem_cons, not_or]; exact ⟨fun h => e h.symm, hp⟩⟩
theorem index_none {c : UInt8} : ∀ {s : List UInt8}, c ∉ s → Lib.index s [c] = -1
  | [], _ => rfl
  | x :: s, h => by
    simp only [List.mem_cons, not_or] at h
    have hp : ([c] : List UInt8).isPrefixOf (x :: s) = false := by simp [List.isPrefixOf, h.1]
    rw [Lib.index, hp, if_neg (by decide), index_none h.2]; rfl
theorem cut_free {c : UInt8} {s : List UInt8} (h : c ∉ s) : Lib.cut s [c] = (s, [], false) := by
  unfold Lib.cut; rw [index_none h, if_neg (by decide)]
theorem cut_at {c : UInt8} {pre rest : List UInt8} (h : c ∉ pre) : Lib.cut (pre ++ c :: rest) [c] = (pre, rest, true) := by
  unfold Lib.cut
  rw [index_at h, if_pos (by omega)]
  simp
def pfx (s : List UInt8) : Option (Nat × Nat) := match spl 47 s with
  | [a, b] => if (prs a).2 = 0 ∧ isNum 32 b = true ∧ right (prs a).1 (val b) = true then some ((prs a).1, val b) else none
  | _ => none
theorem pv_lt : ∀ (l : List (List UInt8)) (a : Nat), l.all isOct = true → l.foldl (fun a w => a * 256 + val w) a < (a + 1) * 256 ^ l.length
  | [], a, _ => by simp
  | w :: l, a, h => by
    simp only [List.all_cons, Bool.and_eq_true] at h
    have ih := pv_lt l (a * 256 + val w) h.2
    have hw := (isOct_iff.1 h.1).1
    simp only [List.foldl_cons, List.length_cons, Nat.pow_succ]
    have h3 : (a * 256 + val w + 1) * 256 ^ l.length ≤ ((a + 1) * 256) * 256 ^ l.length := Nat.mul_le_mul_right _ (by omega)
    have h4 : (a + 1) * 256 * 256 ^ l.length = (a + 1) * (256 ^ l.length * 256) := by rw [Nat.mul_assoc, Nat.mul_comm 256]
    omega
theorem prs_lt (s : List UInt8) : (prs s).1 < 4294967296 := by
  unfold prs
  split
  · rename_i h
    have := pv_lt (spl 46 s) 0 h.2
    rw [h.1] at this
    exact this
  · decide
theorem prs_len {s : List UInt8} (h : (prs s).2 = 0) : s.length ≤ 15 := by
  rcases Nat.lt_or_ge 15 s.length with h1 | h1
  · rw [prs_long h1] at h; cases h
  · exact h1
theorem isNum_len {m k : Nat} {w : List UInt8} (h : isNum m w = true) (hm : m < 10 ^ (k + 1)) : w.length ≤ k + 1 := by
  obtain ⟨h1, h2⟩ := isNum_iff.1 h
  have := dec_len (u := val w) (k := k) (by omega)
  rw [h2] at this; exact this
theorem pfx_some {s : List UInt8} {a n : Nat} (h : pfx s = some (a, n)) : ∃ p q, spl 47 s = [p, q] ∧ (prs p).2 = 0 ∧ isNum 32 q = true ∧ right (prs p).1 (val q) = true ∧ a = (prs p).1 ∧ n = val q := by
  unfold pfx at h
  split at h
  · rename_i p q hs
    split at h
    · rename_i hc
      simp only [Option.some.injEq, Prod.mk.injEq] at h
      exact ⟨p, q, hs, hc.1, hc.2.1, hc.2.2, h.1.symm, h.2.symm⟩
    · cases h
  · cases h
theorem pfx_len {s : List UInt8} {r : Nat × Nat} (h : pfx s = some r) : s.length ≤ 18 := by
  obtain ⟨a, n⟩ := r
  obtain ⟨p, q, hs, h1, h2, _⟩ := pfx_some h
  have hj := join_spl 47 s
  rw [hs] at hj
  have h3 := prs_len h1
  have h4 := isNum_len (k := 1) h2 (by decide)
  have := congrArg List.length hj
  simp only [Lib.join, List.intercalate, List.intersperse, List.flatten_cons, List.flatten_nil, List.length_append, List.length_cons, List.length_nil] at this
  omega
theorem ref_pfx_c (s : List UInt8) (K : UInt32 × Int → Int → Prop) (hl : s.length ≤ 1000000) (h1 : ∀ a n, pfx s = some (a, n) → K (UInt32.ofNat a, (n : Int)) 0) (h2 : pfx s = none → K (0, 0) 5) : ref21_Parse_q s K := by
  unfold ref21_Parse_q
  refine IfB.intro (fun h => h2 ?_) (fun h => ?_)
  · cases hp : pfx s with
    | none => rfl
    | some r => have := pfx_len hp; simp at h; omega
  have hl18 : s.length ≤ 18 := by simp at h; omega
  intro _
  refine split_c s 47 _ (by omega) fun _ => ?_
  have hpl := fun w (h : w ∈ spl 47 s) => spl_part h
  unfold pfx at h1 h2
  generalize spl 47 s = l at *
  refine IfB.intro (fun h => h2 ?_) (fun h => ?_)
  · split
    · simp at h
    · rfl
  have h2l : l.length = 2 := by simp at h; omega
  match l, h2l with
  | [p, q], _ =>
    have hp := hpl p (by simp)
    have hq := hpl q (by simp)
    dsimp only at h1 h2
    refine ⟨by decide, by simp, AtN.of rfl fun _ _ => ref_parse_c p _ (by omega) fun _ => ⟨by decide, by simp, AtN.of rfl fun _ _ => ?_⟩⟩
    have hno : ¬ ((prs p).2 = 0 ∧ isNum 32 q = true ∧ right (prs p).1 (val q) = true) → ∀ x y, ref21_Parse_j0 x y true K := fun hn x y => ifT rfl (h2 (if_neg hn))
    refine whole_c q 2 _ (by decide) (fun hc hq2 _ => ?_) (fun hc _ => ?_)
    · refine IfB.intro (fun h => hno (fun hn => ?_) _ _) (fun h => ifF rfl fun _ => ?_)
      · rw [hn.1] at h; simp at h
      have h0 : (prs p).2 = 0 := by simpa using h
      have hlt := prs_lt p
      have eU : ofI .u32 ((prs p).1 : Int) = UInt32.ofNat (prs p).1 := rfl
      have eN : (UInt32.ofNat (prs p).1).toNat = (prs p).1 := by simp; omega
      refine ref_right_c _ _ _ fun _ => ?_
      rw [eU, eN]
      unfold ref21_Parse_j0
      refine IfB.intro (fun h4 => h2 (if_neg fun hn => ?_)) (fun h4 => ?_)
      · rw [hn.2.2] at h4; cases h4
      · have hr : right (prs p).1 (val q) = true := by simpa using h4
        have h5 := (right_iff.1 hr).2.1
        exact h1 _ _ (if_pos ⟨h0, isNum_canon.2 ⟨by omega, hc⟩, hr⟩)
    · refine IfB.intro (fun h => hno (fun hn => ?_) _ _) (fun h => ifT rfl (hno (fun hn => ?_) _ _))
      · rw [hn.1] at h; simp at h
      · have h3 := isNum_canon.1 hn.2.1
        exact hc ⟨h3.2, isNum_len (k := 1) hn.2.1 (by decide)⟩
theorem pfx_c (s : List UInt8) (K : UInt32 × Int → Int → Prop) (hl : s.length ≤ 1000000) (h1 : ∀ a n, pfx s = some (a, n) → K (UInt32.ofNat a, (n : Int)) 0) (h2 : pfx s = none → K (0, 0) 5) : upd_Parse_q s K := by
  unfold upd_Parse_q
  intro _
  unfold strings_Cut_q
  refine ⟨by omega, ?_⟩
  have step : ∀ (p q : List UInt8) (b : Bool), p.length ≤ 1000000 → q.length ≤ 1000000 → (b = true → 47 ∉ q → pfx s = if (prs p).2 = 0 ∧ isNum 32 q = true ∧ right (prs p).1 (val q) = true then some ((prs p).1, val q) else none) → (b = false ∨ 47 ∈ q → pfx s = none) →
      (WfPs strings_Split_ps (p, ([46] : List UInt8), ()) → strings_Split_q p ([46] : List UInt8) (fun x19 => WfPs strings_Split_rs (x19, ()) → (WfPs upd_number_ps (q, ()) → upd_number_q q (fun x21 => WfPs upd_number_rs (x21, ()) → IfB (!b) (upd_Parse_j0 x21 x19 true K) (upd_Parse_j0 x21 x19 (((x19.length : Int) : Int) != 4) K))))) := by
    intro p q b hp hq hb hn _
    unfold strings_Split_q
    refine ⟨by omega, by decide, ?_⟩
    rw [libSplit_spl]
    intro _ _
    have hpr : prs p = if (spl 46 p).length = 4 ∧ (spl 46 p).all isOct = true then (pv (spl 46 p), 0) else (0, 2) := rfl
    have hpl := fun w (h : w ∈ spl 46 p) => spl_part h
    generalize spl 46 p = l at *
    have key : ∀ v : Int, (isNum 32 q = true ∧ v = (val q : Int)) ∨ (isNum 32 q = false ∧ (v < 0 ∨ v > 32)) → IfB (!b) (upd_Parse_j0 v l true K) (upd_Parse_j0 v l (((l.length : Int) : Int) != 4) K) := by
      intro v hv
      have bad : (b = true → 47 ∉ q → ¬ ((prs p).2 = 0 ∧ isNum 32 q = true ∧ right (prs p).1 (val q) = true)) → K (0, 0) 5 := fun h => h2 (by
        by_cases hbq : b = true ∧ 47 ∉ q
        · rw [hb hbq.1 hbq.2, if_neg (h hbq.1 hbq.2)]
        · refine hn ?_
          rcases Bool.eq_false_or_eq_true b with e | e
          · exact .inr (Classical.byContradiction fun hh => hbq ⟨e, hh⟩)
          · exact .inl e)
      refine IfB.intro (fun h => ifT rfl (bad fun hbt => by rw [hbt] at h; cases h)) (fun h => ?_)
      have hbt : b = true := by simpa using h
      unfold upd_Parse_j0
      refine IfB.intro (fun h4 => bad fun _ _ hc => ?_) (fun h4 => ?_)
      · rw [hpr, if_neg (by intro hx; rw [hx.1] at h4; simp at h4)] at hc
        exact absurd hc.1 (by decide)
      have h4l : l.length = 4 := by simp at h4; omega
      refine LoopJ.over l (fun pre => ((pre.length : Int), (pv pre : Int), v, ())) (fun pre => pre.all isOct = true ∧ pv pre < 256 ^ pre.length) rfl ⟨rfl, by decide⟩ (fun pre w post hpp hnn hP next hx => ?_) (fun hP next => ?_)
      · intro _
        dsimp only [upd_Parse_l7]
        have hno : isOct w = false → K (0, 0) 5 := fun ho => bad fun _ _ hc => by
          rw [hpr, if_neg (fun h5 => by have := List.all_eq_true.1 h5.2 w (by rw [hpp]; simp); rw [ho] at this; cases this)] at hc
          exact absurd hc.1 (by decide)
        refine ifT (decide_eq_true (by omega)) ⟨by omega, by omega, AtN.of (at_pre hpp) fun _ _ => ?_⟩
        refine number_c w 255 _ (by decide) (by have := hpl w (by rw [hpp]; simp); omega) (fun ho _ => ?_) (fun ho x hx0 _ => ?_)
        · obtain ⟨h5, h6⟩ := isOct_iff.1 ho
          have hb2 : pv pre < 16777216 := by
            have h7 : pre.length ≤ 3 := by omega
            have : 256 ^ pre.length ≤ 256 ^ 3 := Nat.pow_le_pow_right (by decide) h7
            omega
          refine ifF (decide_eq_false (by omega)) (ifF (decide_eq_false (by omega)) ⟨by decide, of_eq (hx ⟨by rw [List.all_append, hP.1]; simp [show isOct w = true from ho], ?_⟩) ?_⟩)
          · rw [pv_snoc, List.length_append, List.length_singleton, Nat.pow_succ]
            have := hP.2
            omega
          · rw [pv_snoc, show ((pv pre : Nat) : Int) * 256 = ((pv pre * 256 : Nat) : Int) by omega, wu32 (by omega), wu32 (by omega), or_nat .u32 _ _ (lt_u32 (by omega)) (lt_u32 (by omega)), or_256 _ _ (by omega), wu32 (by omega), wr_i64 (by omega) (by omega)]
            simp
        · have ho' : isOct w = false := ho
          first | unfold upd_Parse_j3 | unfold upd_Parse_j1
          refine IfB.intro (fun _ => ifT rfl (hno ho')) (fun h5 => ifT ?_ (hno ho'))
          simp at h5; simp; omega
      · intro _
        dsimp only [upd_Parse_l7]
        have hlt : pv l < 4294967296 := by have := hP.2; rw [h4l] at this; exact this
        have eU : ofI .u32 ((pv l : Nat) : Int) = UInt32.ofNat (pv l) := rfl
        have eN : (UInt32.ofNat (pv l)).toNat = pv l := by simp; omega
        have hpr2 : prs p = (pv l, 0) := by rw [hpr, if_pos ⟨h4l, hP.1⟩]
        refine ifF (decide_eq_false (by omega)) fun _ => right_c _ _ _ fun _ => ?_
        rw [eU, eN]
        unfold upd_Parse_j2
        refine IfB.intro (fun hr => ?_) (fun hr => bad fun _ _ hc => ?_)
        · rcases hv with ⟨h6, rfl⟩ | ⟨_, h6⟩
          · have hq47 : 47 ∉ q := isNum_no h6 (.inl (by decide))
            refine h1 _ _ ?_
            rw [hb hbt hq47, hpr2, if_pos ⟨rfl, h6, hr⟩]
          · have := right_iff.1 hr
            omega
        · rw [hpr2] at hc
          rcases hv with ⟨h6, rfl⟩ | ⟨h6, _⟩
          · rw [hc.2.2] at hr; cases hr
          · rw [h6] at hc; exact absurd hc.2.1 (by decide)
    refine number_c q 32 _ (by decide) (by omega) (fun h _ => key _ (.inl ⟨h, rfl⟩)) (fun h v hv _ => key v (.inr ⟨h, hv⟩))
  by_cases hm : 47 ∈ s
  · obtain ⟨p, q, rfl, hp⟩ := mem_cut hm
    rw [cut_at hp]
    intro _
    simp only [List.length_append, List.length_cons] at hl
    refine step p q true (by omega) (by omega) (fun _ hq => ?_) (fun h => ?_)
    · unfold pfx; rw [spl_cut hp, spl_free hq]
    · rcases h with h | h
      · cases h
      · obtain ⟨u, v, rfl, hu⟩ := mem_cut h
        unfold pfx
        rw [spl_cut hp, spl_cut hu]
        have : spl 47 v ≠ [] := by unfold spl; simp
        cases hv : spl 47 v with
        | nil => exact absurd hv this
        | cons => rfl
  · rw [cut_free hm]
    intro _
    refine step s [] false hl (by simp) (fun h => by cases h) (fun _ => ?_)
    unfold pfx; rw [spl_free hm]
end Go.Proofs.YtboagabgpcghcaaGreatDoor
set_option linter.unusedSectionVars false
set_option linter.unusedSimpArgs false
set_option linter.unusedVariables false
namespace Go.Proofs.YtboagabgpcghcaaGreatDoor
open Go.Sh
theorem itoa_3 (n : Nat) (h : n < 256) : (Lib.itoa n).length ≤ 3 := by
  unfold Lib.itoa
  rw [if_neg (by omega), Int.toNat_natCast]
  unfold Lib.decDigits
  split
  · simp
  · unfold Lib.decDigits
    split
    · simp
    · unfold Lib.decDigits
      split
      · simp
      · omega
def txt (a : Nat) : List UInt8 := Lib.join [Lib.itoa ((a / 16777216 % 256 : Nat) : Int), Lib.itoa ((a / 65536 % 256 : Nat) : Int), Lib.itoa ((a / 256 % 256 : Nat) : Int), Lib.itoa ((a % 256 : Nat) : Int)] [46]
theorem txt_len (a : Nat) : (txt a).length ≤ 15 := by
  have h1 := itoa_3 (a / 16777216 % 256) (by omega); have h2 := itoa_3 (a / 65536 % 256) (by omega); have h3 := itoa_3 (a / 256 % 256) (by omega); have h4 := itoa_3 (a % 256) (by omega)
  simp only [txt, Lib.join, List.intercalate, List.intersperse, List.flatten_cons, List.flatten_nil, List.length_append, List.length_cons, List.length_nil]
  omega
theorem two7_c (n : Nat) (K : List UInt8 → Prop) (h : n ≤ 9223372036854775807) (hk : K [UInt8.ofNat (n / 256), UInt8.ofNat n]) : ref07_two_q n K := by
  unfold ref07_two_q
  refine ⟨by decide, by decide, by decide, of_eq hk ?_⟩
  rw [tdiv_1, wi64n _ (by omega), tmod_1, tmod_1, of8w, of8w, u8_mod, u8_mod]
theorem four7_c (n : Nat) (K : List UInt8 → Prop) (h : n < 4294967296) (hk : K [UInt8.ofNat (n / 65536 / 256), UInt8.ofNat (n / 65536), UInt8.ofNat (n / 256), UInt8.ofNat n]) : ref07_four_q n K := by
  unfold ref07_four_q
  refine ⟨by decide, fun _ => ?_⟩
  rw [tdiv_2, tmod_2, wu32 (by omega), wi64n _ (by omega), wi64n _ (by omega)]
  refine two7_c _ _ (by omega) fun _ => ⟨by decide, fun _ => two7_c _ _ (by omega) fun _ => ⟨by simp, of_eq hk ?_⟩⟩
  have e : UInt8.ofNat (n % 65536 / 256) = UInt8.ofNat (n / 256) := by
    rw [← u8_mod (n % 65536 / 256), ← u8_mod (n / 256)]; congr 1; omega
  have e2 : UInt8.ofNat (n % 65536) = UInt8.ofNat n := by
    rw [← u8_mod (n % 65536), ← u8_mod n]; congr 1; omega
  rw [e, e2]; rfl
theorem base_itoa_c (n : Nat) (K : List UInt8 → Prop) (hn : n ≤ 1000000) (hk : K (Lib.decDigits n)) : base_Itoa_q n K := by
  unfold base_Itoa_q
  refine IfB.intro (fun h => ?_) (fun h => ?_)
  · have : n = 0 := by simpa using h
    subst this
    rw [dec_lt (by decide)] at hk; exact hk
  have h0 : n ≠ 0 := by simpa using h
  refine ⟨fun m y => ∃ s : List UInt8, y = (s, (m : Int), ()) ∧ s.length + m ≤ n ∧ ((m = 0 ∧ s = Lib.decDigits n) ∨ (0 < m ∧ Lib.decDigits n = Lib.decDigits m ++ s)), n, ⟨[], rfl, by simp, .inr ⟨by omega, by simp⟩⟩, ?_⟩
  rintro m y ⟨s, rfl, hb, hm⟩
  intro _
  dsimp only [base_Itoa_l4]
  rcases hm with ⟨rfl, hs⟩ | ⟨hm, hd⟩
  · refine ifF rfl (ifF (decide_eq_false (by omega)) ?_)
    rw [hs]; exact hk
  · refine ifT (by simp; omega) ⟨by decide, ?_⟩
    rw [show Int.tmod (m : Int) 10 = ((m % 10 : Nat) : Int) from rfl]
    refine ifF (decide_eq_false (by omega)) ?_
    unfold base_Itoa_j0
    rw [show Int.tdiv (m : Int) 10 = ((m / 10 : Nat) : Int) from rfl, show (48 : Int) + ((m % 10 : Nat) : Int) = ((48 + m % 10 : Nat) : Int) by omega, wi64n _ (by omega), of8w, wi64n _ (by omega)]
    refine ⟨by simp only [List.length_singleton]; unfold lenMax; omega, by decide, m / 10, by omega, _, rfl, ?_, ?_⟩
    · rw [List.length_append, List.length_singleton]; omega
    · by_cases h2 : m < 10
      · left
        refine ⟨by omega, ?_⟩
        rw [hd, dec_lt h2, show m % 10 = m by omega]
      · right
        refine ⟨by omega, ?_⟩
        rw [hd, dec_ge h2]; simp
theorem txt_eq (a : Nat) : txt a = Lib.join [Lib.decDigits (a / 16777216 % 256), Lib.decDigits (a / 65536 % 256), Lib.decDigits (a / 256 % 256), Lib.decDigits (a % 256)] [46] := by
  unfold txt
  rw [itoa_nat, itoa_nat, itoa_nat, itoa_nat]
theorem ref_text_c (a : Nat) (K : List UInt8 → Prop) (h : a < 4294967296) (hk : K (txt a)) : ref07_Text_q a K := by
  unfold ref07_Text_q
  have hb : ∀ n : Nat, IntKind.wrap .i64 ((UInt8.ofNat n).toNat : Int) = ((n % 256 : Nat) : Int) := fun n => by
    rw [UInt8.toNat_ofNat', wi64n _ (by omega)]
  have hlen : ∀ n : Nat, (Lib.decDigits (n % 256)).length ≤ 3 := fun n => dec_len (k := 2) (by omega)
  refine fun _ => four7_c a _ h fun _ => ⟨by decide, AtN.of rfl fun _ => ⟨by decide, AtN.of rfl fun _ => ⟨by decide, AtN.of rfl fun _ => ⟨by decide, AtN.of rfl fun _ => ?_⟩⟩⟩⟩
  rw [hb, hb, hb, hb]
  have l1 := hlen (a / 65536 / 256); have l2 := hlen (a / 65536); have l3 := hlen (a / 256); have l4 := hlen a
  refine fun _ => base_itoa_c _ _ (by omega) fun _ => ⟨?_, fun _ => base_itoa_c _ _ (by omega) fun _ => ⟨?_, ?_, fun _ => base_itoa_c _ _ (by omega) fun _ => ⟨?_, ?_, fun _ => base_itoa_c _ _ (by omega) fun _ => ⟨?_, of_eq hk ?_⟩⟩⟩⟩
  · unfold lenMax; simp only [List.length_append, List.length_singleton]; omega
  · unfold lenMax; simp only [List.length_append, List.length_singleton]; omega
  · unfold lenMax; simp only [List.length_append, List.length_singleton]; omega
  · unfold lenMax; simp only [List.length_append, List.length_singleton]; omega
  · unfold lenMax; simp only [List.length_append, List.length_singleton]; omega
  · unfold lenMax; simp only [List.length_append, List.length_singleton]; omega
  · rw [txt_eq, show a / 16777216 = a / 65536 / 256 by omega]
    simp [Lib.join, List.intercalate, List.intersperse]
theorem prs_txt (a : Nat) (h : a < 4294967296) : prs (txt a) = (a, 0) := by
  have hno : ∀ u : Nat, (46 : UInt8) ∉ Lib.decDigits u := fun u => dec_no (Or.inl (by decide))
  have hs : spl 46 (txt a) = [Lib.decDigits (a / 16777216 % 256), Lib.decDigits (a / 65536 % 256), Lib.decDigits (a / 256 % 256), Lib.decDigits (a % 256)] := by
    rw [txt_eq]
    have e : Lib.join [Lib.decDigits (a / 16777216 % 256), Lib.decDigits (a / 65536 % 256), Lib.decDigits (a / 256 % 256), Lib.decDigits (a % 256)] [46] = Lib.decDigits (a / 16777216 % 256) ++ 46 :: (Lib.decDigits (a / 65536 % 256) ++ 46 :: (Lib.decDigits (a / 256 % 256) ++ 46 :: Lib.decDigits (a % 256))) := by
      simp [Lib.join, List.intercalate, List.intersperse]
    rw [e, spl_cut (hno _), spl_cut (hno _), spl_cut (hno _), spl_free (hno _)]
  have ho : ∀ n : Nat, isOct (Lib.decDigits (n % 256)) = true := fun n => isOct_iff.2 ⟨by rw [val_dec]; omega, by rw [val_dec]⟩
  unfold prs
  rw [hs, if_pos ⟨rfl, by simp only [List.all_cons, List.all_nil, ho, Bool.and_true]⟩]
  simp only [pv, List.foldl_cons, List.foldl_nil, val_dec]
  congr 1
  omega
def pfT (a n : Nat) : List UInt8 := txt a ++ 47 :: Lib.decDigits n
theorem txt_no (a : Nat) : (47 : UInt8) ∉ txt a := by
  rw [txt_eq]
  have hno : ∀ u : Nat, (47 : UInt8) ∉ Lib.decDigits u := fun u => dec_no (Or.inl (by decide))
  have e : Lib.join [Lib.decDigits (a / 16777216 % 256), Lib.decDigits (a / 65536 % 256), Lib.decDigits (a / 256 % 256), Lib.decDigits (a % 256)] [46] = Lib.decDigits (a / 16777216 % 256) ++ 46 :: (Lib.decDigits (a / 65536 % 256) ++ 46 :: (Lib.decDigits (a / 256 % 256) ++ 46 :: Lib.decDigits (a % 256))) := by
    simp [Lib.join, List.intercalate, List.intersperse]
  rw [e]
  simp only [List.mem_append, List.mem_cons, hno, false_or, or_false]
  decide
theorem pfx_txt {a n : Nat} (ha : a < 4294967296) (hr : right a (n : Int) = true) : pfx (pfT a n) = some (a, n) := by
  have hn : n ≤ 32 := by have := (right_iff.1 hr).2.1; omega
  unfold pfx pfT
  rw [spl_cut (txt_no a), spl_free (dec_no (Or.inl (by decide)))]
  simp only
  rw [prs_txt a ha, val_dec, if_pos ⟨rfl, isNum_iff.2 ⟨by rw [val_dec]; omega, by rw [val_dec]⟩, hr⟩]
theorem pfT_len (a n : Nat) (hn : n ≤ 99) : (pfT a n).length ≤ 18 := by
  have h1 := txt_len a
  have h2 := dec_len (u := n) (k := 1) (by omega)
  unfold pfT
  simp only [List.length_append, List.length_cons]; omega
end Go.Proofs.YtboagabgpcghcaaGreatDoor
set_option linter.unusedVariables false
namespace Go.Proofs.YtboagabgpcghcaaGreatDoor
open Go.Sh
theorem sub_mod (a s : Nat) : a - a % s = s * (a / s) := by
  have := Nat.div_add_mod a s
  omega
end Go.Proofs.YtboagabgpcghcaaGreatDoor
set_option linter.unusedVariables false
set_option linter.unusedSimpArgs false
namespace Go.Proofs.YtboagabgpcghcaaGreatDoor
open Go.Sh
def pT (a : UInt32) (n : Int) : List UInt8 := if right a.toNat n = true then pfT a.toNat n.toNat else []
theorem upd_Text_c (a : UInt32) (n : Int) (K : List UInt8 → Prop) (hk : K (pT a n)) : upd_Text_q (a, n) K := by
  unfold upd_Text_q
  simp only [ofI_u32]
  have ha := UInt32.toNat_lt a
  refine fun _ => right_c a n _ fun _ => IfB.intro (fun h => ?_) (fun h => ?_)
  · have h : right a.toNat n = false := by simpa using h
    unfold pT at hk
    rw [h] at hk; exact hk
  have h : right a.toNat n = true := by simpa using h
  obtain ⟨h0, h32, _⟩ := right_iff.1 h
  have hx : ∀ s : Nat, s ≤ 24 → IntKind.wrap .i64 (bitsAnd .u32 (Int.fdiv (a.toNat : Int) ((2 : Int) ^ (min s 32))) 255) = ((a.toNat / 2 ^ s % 256 : Nat) : Int) := by
    intro s hs
    have hd : a.toNat / 2 ^ s ≤ a.toNat := Nat.div_le_self _ _
    rw [Nat.min_eq_left (by omega), show ((2 : Int) ^ s) = ((2 ^ s : Nat) : Int) by rw [Int.natCast_pow]; rfl, Int.fdiv_eq_ediv_of_nonneg _ (Int.natCast_nonneg _), ← Int.natCast_ediv,
      show (255 : Int) = ((255 : Nat) : Int) from rfl, and_nat .u32 _ _ (lt_u32 (by omega)) (lt_u32 (by decide)), and_255, wu32 (by omega), wi64n _ (by omega)]
  let L : List (List UInt8) := [Lib.itoa ((a.toNat / 16777216 % 256 : Nat) : Int), Lib.itoa ((a.toNat / 65536 % 256 : Nat) : Int), Lib.itoa ((a.toNat / 256 % 256 : Nat) : Int), Lib.itoa ((a.toNat % 256 : Nat) : Int)]
  refine LoopJ.up 4 (fun i => (L.take i, (i : Int), ())) (fun _ => True) rfl trivial (fun i hi _ next hn => ?_) (fun _ next => ?_)
  · intro _
    dsimp only [upd_Text_l5]
    refine ifT (decide_eq_true (by omega)) ?_
    have e1 : IntKind.wrap .i64 (24 - IntKind.wrap .i64 (8 * (i : Int))) = ((24 - 8 * i : Nat) : Int) := by rw [wr_i64 (n := 8 * (i : Int)) (by omega) (by omega), wr_i64 (by omega) (by omega)]; omega
    have e2 : IntKind.wrap .i64 ((i : Int) + 1) = ((i + 1 : Nat) : Int) := by rw [wr_i64 (by omega) (by omega)]; omega
    rw [e1, e2, Int.toNat_natCast, show IntKind.bits .u32 = 32 from rfl, hx _ (by omega)]
    refine ⟨by omega, fun _ => ?_⟩
    unfold strconv_Itoa_q
    intro _
    refine ⟨by simp only [List.length_take, List.length_cons, List.length_nil]; omega, of_eq (hn trivial) ?_⟩
    have hi4 : i = 0 ∨ i = 1 ∨ i = 2 ∨ i = 3 := by omega
    rcases hi4 with rfl | rfl | rfl | rfl
    · rfl
    · rfl
    · rfl
    · show (L, _, ()) = (L.take 3 ++ [Lib.itoa ((a.toNat / 1 % 256 : Nat) : Int)], _, ())
      rw [Nat.div_one]; rfl
  · intro _
    dsimp only [upd_Text_l5]
    refine ifF (by decide) fun _ => ?_
    unfold strings_Join_q
    have hl := txt_len a.toNat
    obtain ⟨m, rfl⟩ := Int.eq_ofNat_of_zero_le h0
    have hm : m ≤ 32 := by omega
    have hd := dec_len (u := m) (k := 1) (by omega)
    have e3 : Lib.itoa (m : Int) = Lib.decDigits m := itoa_nat m
    refine ⟨by simp [L], by show (txt a.toNat).length ≤ _; omega, fun _ => ⟨by show (txt a.toNat).length + _ ≤ _; unfold lenMax; simp only [List.length_cons, List.length_nil]; omega, fun _ => ?_⟩⟩
    unfold strconv_Itoa_q
    rw [e3]
    refine fun _ => ⟨by show (txt a.toNat ++ _).length + _ ≤ _; unfold lenMax; simp only [List.length_append, List.length_cons, List.length_nil]; omega, of_eq hk ?_⟩
    unfold pT pfT
    rw [if_pos h]
    show _ = txt a.toNat ++ [47] ++ Lib.decDigits m
    simp
theorem ref_Text_c (a : UInt32) (n : Int) (K : List UInt8 → Prop) (hk : K (pT a n)) : ref21_Text_q (a, n) K := by
  unfold ref21_Text_q
  simp only [ofI_u32]
  have ha := UInt32.toNat_lt a
  refine fun _ => ref_right_c a n _ fun _ => IfB.intro (fun h => ?_) (fun h => ?_)
  · have h : right a.toNat n = false := by simpa using h
    unfold pT at hk
    rw [h] at hk; exact hk
  have h : right a.toNat n = true := by simpa using h
  obtain ⟨h0, h32, _⟩ := right_iff.1 h
  obtain ⟨m, rfl⟩ := Int.eq_ofNat_of_zero_le h0
  have hl := txt_len a.toNat
  have hd := dec_len (u := m) (k := 1) (by omega)
  refine fun _ => ref_text_c a.toNat _ ha fun _ => ⟨by unfold lenMax; simp only [List.length_cons, List.length_nil]; omega, fun _ => base_itoa_c m _ (by omega) fun _ => ⟨by unfold lenMax; simp only [List.length_append, List.length_cons, List.length_nil]; omega, of_eq hk ?_⟩⟩
  unfold pT pfT
  rw [if_pos h]
  simp
def within (p q : UInt32 × Int) : Bool := right p.1.toNat p.2 && (right q.1.toNat q.2 && (decide (p.2 ≤ q.2) && decide (q.1.toNat - q.1.toNat % hostBits p.2.toNat = p.1.toNat)))
theorem within_c (p q : UInt32 × Int) (K : Bool → Prop) (hk : K (within p q)) : upd_Within_q p q K := by
  unfold upd_Within_q
  simp only [ofI_u32]
  have hq := UInt32.toNat_lt q.1
  unfold within at hk
  refine fun _ => right_c p.1 p.2 _ fun _ => IfB.intro (fun h => ?_) (fun h => by rw [h] at hk; exact hk)
  refine fun _ => right_c q.1 q.2 _ fun _ => IfB.intro (fun h2 => ?_) (fun h2 => by rw [h, h2] at hk; exact hk)
  rw [h, h2] at hk
  simp only [Bool.true_and] at hk
  obtain ⟨h0, h32, _⟩ := right_iff.1 h
  refine IfB.intro (fun h3 => ?_) (fun h3 => ?_)
  · have h3 : p.2 ≤ q.2 := of_decide_eq_true h3
    rw [decide_eq_true h3, Bool.true_and] at hk
    obtain ⟨m, hm⟩ := Int.eq_ofNat_of_zero_le h0
    rw [hm] at hk ⊢
    rw [Int.toNat_natCast] at hk
    refine fun _ => mask_c q.1.toNat m _ hq (by omega) fun _ => of_eq hk ?_
    by_cases e : q.1.toNat - q.1.toNat % hostBits m = p.1.toNat
    · rw [decide_eq_true e, e]; simp
    · rw [decide_eq_false e, beq_eq_false_iff_ne.2 (fun h => e (by exact_mod_cast h))]
  · have h3 : ¬ p.2 ≤ q.2 := of_decide_eq_false h3
    rw [decide_eq_false h3] at hk; exact hk
theorem ref_within_c (p q : UInt32 × Int) (K : Bool → Prop) (hk : K (within p q)) : ref21_Within_q p q K := by
  unfold ref21_Within_q
  simp only [ofI_u32]
  have hq := UInt32.toNat_lt q.1
  have hp := UInt32.toNat_lt p.1
  unfold within at hk
  refine fun _ => ref_right_c p.1 p.2 _ fun _ => IfB.intro (fun h => ?_) (fun h => by rw [h] at hk; exact hk)
  refine fun _ => ref_right_c q.1 q.2 _ fun _ => IfB.intro (fun h2 => ?_) (fun h2 => by rw [h, h2] at hk; exact hk)
  rw [h, h2] at hk
  simp only [Bool.true_and] at hk
  obtain ⟨h0, h32, hz⟩ := right_iff.1 h
  refine IfB.intro (fun h3 => ?_) (fun h3 => ?_)
  · have h3 : p.2 ≤ q.2 := of_decide_eq_true h3
    rw [decide_eq_true h3, Bool.true_and] at hk
    have hpos : 0 < hostBits p.2.toNat := Nat.pow_pos (by decide)
    refine fun _ => size_c p.2 _ h32 fun _ => ⟨by omega, fun _ => size_c p.2 _ h32 fun _ => ⟨by omega, of_eq hk ?_⟩⟩
    rw [wu64n q.1.toNat (by omega), wu64n p.1.toNat (by omega)]
    have e1 : Int.tdiv (q.1.toNat : Int) (hostBits p.2.toNat : Nat) = ((q.1.toNat / hostBits p.2.toNat : Nat) : Int) := rfl
    have e2 : Int.tdiv (p.1.toNat : Int) (hostBits p.2.toNat : Nat) = ((p.1.toNat / hostBits p.2.toNat : Nat) : Int) := rfl
    have d1 := Nat.div_le_self q.1.toNat (hostBits p.2.toNat)
    have d2 := Nat.div_le_self p.1.toNat (hostBits p.2.toNat)
    rw [e1, e2, wu64n _ (by omega), wu64n _ (by omega), sub_mod]
    have hp2 : p.1.toNat = hostBits p.2.toNat * (p.1.toNat / hostBits p.2.toNat) := by have := Nat.div_add_mod p.1.toNat (hostBits p.2.toNat); omega
    by_cases e : q.1.toNat / hostBits p.2.toNat = p.1.toNat / hostBits p.2.toNat
    · rw [e, decide_eq_true hp2.symm]; simp
    · rw [decide_eq_false (fun h => e ?_), beq_eq_false_iff_ne.2 (fun h => e (by exact_mod_cast h))]
      rw [hp2] at h
      exact Nat.eq_of_mul_eq_mul_left hpos h
  · have h3 : ¬ p.2 ≤ q.2 := of_decide_eq_false h3
    rw [decide_eq_false h3] at hk; exact hk
end Go.Proofs.YtboagabgpcghcaaGreatDoor
set_option linter.unusedVariables false
set_option linter.unusedSimpArgs false
set_option maxRecDepth 100000
namespace Go.Proofs.YtboagabgpcghcaaGreatDoor
open Go.Sh
theorem get16_c (x y : UInt8) (r : List UInt8) (K : Int → Prop) (h : K ((x.toNat * 256 + y.toNat : Nat) : Int)) : upd_get16_q (x :: y :: r) K := by
  have hx := UInt8.toNat_lt x
  have hy := UInt8.toNat_lt y
  unfold upd_get16_q
  refine ⟨by decide, AtN.of rfl fun _ => ⟨by decide, by decide, AtN.of rfl fun _ => of_eq h ?_⟩⟩
  rw [wi64n x.toNat (by omega), wi64n y.toNat (by omega), show (x.toNat : Int) * 256 = ((x.toNat * 256 : Nat) : Int) by omega, wi64n _ (by omega), or_nat .i64 _ _ (lt_i64 (by omega)) (lt_i64 (by omega)), or_256 _ _ (by omega), wi64n _ (by omega)]
theorem part_c (x y : UInt8) (r : List UInt8) (K : List UInt8 → List UInt8 → Bool → Prop) (hl : r.length ≤ 1000000000) (h : if x.toNat * 256 + y.toNat ≤ r.length then K (r.take (x.toNat * 256 + y.toNat)) (r.drop (x.toNat * 256 + y.toNat)) true else K [] [] false) : upd_part_q (x :: y :: r) K := by
  have hx := UInt8.toNat_lt x
  have hy := UInt8.toNat_lt y
  unfold upd_part_q
  refine ifF (decide_eq_false (by simp only [List.length_cons]; omega)) fun _ => get16_c x y r _ fun _ => ?_
  have e : (((x :: y :: r).length : Nat) : Int) - 2 = (r.length : Int) := by simp only [List.length_cons]; omega
  rw [e, wr_i64 (n := (r.length : Int)) (by omega) (by omega)]
  generalize hn : x.toNat * 256 + y.toNat = n at *
  by_cases hc : n ≤ r.length
  · rw [if_pos hc] at h
    rw [decide_eq_false (by omega)]
    unfold upd_part_j0
    refine ifF rfl fun _ => get16_c x y r _ fun _ => ?_
    rw [hn]
    have e2 : IntKind.wrap .i64 (2 + (n : Int)) = ((2 + n : Nat) : Int) := by rw [wr_i64 (by omega) (by omega)]; omega
    rw [e2, Int.toNat_natCast]
    refine ⟨by omega, by simp only [List.length_cons]; omega, by decide, by omega, by omega, by simp only [List.length_cons]; omega, ?_⟩
    have a1 : (x :: y :: r).take (2 + n) = x :: y :: r.take n := by rw [Nat.add_comm]; rfl
    have a2 : (x :: y :: r).drop (2 + n) = r.drop n := by rw [Nat.add_comm]; rfl
    rw [a1, a2]; exact h
  · rw [if_neg hc] at h
    rw [decide_eq_true (by omega)]
    unfold upd_part_j0
    exact ifT rfl h
def allF (l : List PfB) : List Pf × Bool := if l.all (fun x => x.2.1) = true then (l.map fun x => x.1, true) else ([], false)
theorem all_c (b : List UInt8) (K : List Pf → Bool → Prop) (hl : b.length ≤ 1000000000) (hp : (prefXs b).length ≤ 1000000000) (h : K (allF (prefXs b)).1 (allF (prefXs b)).2) : upd_all_q b K := by
  unfold upd_all_q
  refine ⟨show b.length ≤ _ by omega, ?_⟩
  show EachJ _ _ (prefXs b) _
  have main : ∀ (post pre : List PfB), pre ++ post = prefXs b → pre.all (fun x => x.2.1) = true → EachJ (fun (y : (List (UInt32 × Int) × Bool × List (UInt32 × Int) × Unit)) => WfY pl_upd_all_4000003.kinds y → upd_all_e4000003 y.1 y.2.1 y.2.2.1 K)
      (fun (y : (List (UInt32 × Int) × Bool × List (UInt32 × Int) × Unit)) (x : ((UInt32 × Int) × Bool × Unit)) (next : (List (UInt32 × Int) × Bool × List (UInt32 × Int) × Unit) → Prop) => WfY pl_upd_all_4000003.kinds y → WfPs it_prefixes.ps x → upd_all_l4000003 y.1 y.2.1 y.2.2.1 x.1 x.2.1 next K) post (([] : List (UInt32 × Int)), false, (pre.map fun x => x.1), ()) := by
    intro post
    induction post with
    | nil =>
      intro pre he ha _
      rw [List.append_nil] at he
      subst he
      unfold upd_all_e4000003
      unfold allF at h
      rw [if_pos ha] at h; exact h
    | cons x post ih =>
      intro pre he ha _ _
      refine IfB.intro (b := !x.2.1) (fun h1 => ?_) (fun h1 => ?_)
      · have h1 : x.2.1 = false := by simpa using h1
        have hb : ¬ (prefXs b).all (fun x => x.2.1) = true := by rw [← he]; simp [h1]
        unfold allF at h
        rw [if_neg hb] at h; exact h
      · have h1 : x.2.1 = true := by simpa using h1
        have hlen := congrArg List.length he
        simp only [List.length_append, List.length_cons] at hlen
        refine ⟨by simp only [List.length_map, List.length_cons, List.length_nil]; omega, ?_⟩
        have e : (pre.map fun x => x.1) ++ [((ofI .u32 (x.1.1.toNat : Int)), x.1.2)] = (pre ++ [x]).map fun x => x.1 := by simp [ofI_u32]
        have := ih (pre ++ [x]) (by rw [List.append_assoc]; exact he) (by rw [List.all_append, ha]; simp [h1])
        rw [← e] at this
        exact this
  exact main (prefXs b) [] rfl rfl
def exU : Upd := ([(167772160, 8)], [], 0, [], 0, false, 0, false, 0, false, false, 0, 0, [], [], 0)
theorem exU_b : updR exU false = ([0, 2, 8, 10, 0, 0], 0) := by rfl
theorem exU_p : prefXs [8, 10] = [((167772160, 8), true, ())] := by rfl
theorem exU_t : pT 167772160 8 = [49, 48, 46, 48, 46, 48, 46, 48, 47, 56] := by
  have d10 : Lib.decDigits (167772160 / 16777216 % 256) = [49, 48] := by
    show Lib.decDigits 10 = _
    rw [dec_ge (by decide)]
    show Lib.decDigits 1 ++ _ = _
    rw [dec_lt (by decide)]; rfl
  have d0 : ∀ k : Nat, k = 0 → Lib.decDigits k = [48] := fun k hk => by subst hk; rw [dec_lt (by decide)]; rfl
  have d8 : Lib.decDigits (8 : Int).toNat = [56] := by
    show Lib.decDigits 8 = _
    rw [dec_lt (by decide)]; rfl
  have hr : right (167772160 : UInt32).toNat 8 = true := by decide
  unfold pT pfT
  rw [if_pos hr, d8, show (167772160 : UInt32).toNat = 167772160 from rfl, txt_eq, d10, d0 (167772160 / 65536 % 256) (by decide)]
  rfl
theorem works_c (K : Bool → Prop) (h : K true) : law21_works_q K := by
  unfold law21_works_q
  have e1 : (ofI .u32 167772160 : UInt32) = 167772160 := rfl
  have e2 : (ofI .u32 0 : UInt32) = 0 := rfl
  rw [e1, e2]
  refine fun _ => upd_Build_c exU false _ (by decide) (by decide) ⟨by decide, by decide, by decide, by decide⟩ ?_
  rw [exU_b]
  refine fun _ _ => ?_
  unfold upd_Read_q
  refine fun _ => part_c 0 2 [8, 10, 0, 0] _ (by decide) ?_
  rw [if_pos (by decide)]
  refine fun _ => ifF rfl fun _ => part_c 0 0 [] _ (by decide) ?_
  rw [if_pos (by decide)]
  refine fun _ => ifF rfl fun _ => ⟨rfl, rfl, fun _ => ifF rfl fun _ => all_c [8, 10] _ (by decide) (by rw [exU_p]; decide) ?_⟩
  rw [exU_p]
  refine fun _ _ => all_c [] _ (by decide) (by decide) fun _ => ifF rfl ?_
  unfold upd_Read_j0
  refine ifF rfl (ifF rfl (ifF rfl ?_))
  unfold upd_Read_j1
  refine fun _ => ifT rfl fun _ => ?_
  unfold base_SameBytes_q
  refine fun _ => ifT rfl (ifT rfl (ifT rfl ⟨by decide, AtN.of rfl fun _ => ifT rfl ⟨by decide, AtN.of rfl fun _ _ => ?_⟩⟩))
  simp only [ofI_u32]
  refine upd_Text_c 167772160 8 _ ?_
  rw [exU_t]
  exact fun _ => h
theorem mini21 (a b : Nat) : (min (a : Int) (b : Int)).toNat = min a b := by omega
theorem take_min21 {A : Type} (l : List A) (n : Nat) : l.take (min l.length n) = l.take n := by
  rcases Nat.le_total l.length n with h | h
  · rw [Nat.min_eq_left h, List.take_length, List.take_of_length_le h]
  · rw [Nat.min_eq_right h]
theorem updTells_q (p q : UInt32 × Int) (s : List UInt8) (hl : s.length ≤ 9223372036854775807) : law21_UpdTells_q p q s fun r => r = true := by
  unfold law21_UpdTells_q
  have e40 : (min (s.length : Int) 40).toNat = min s.length 40 := mini21 _ 40
  rw [e40, take_min21]
  simp only [ofI_u32]
  have hl40 : (s.take 40).length ≤ 40 := by simp only [List.length_take]; omega
  generalize s.take 40 = t at *
  have hend : law21_UpdTells_j2 fun r => r = true := fun _ => works_c _ fun _ => rfl
  have h0 : law21_UpdTells_j0 p false fun r => r = true := by
    unfold law21_UpdTells_j0
    simp only [ofI_u32]
    refine ifF rfl fun _ => right_c p.1 p.2 _ fun _ => IfB.intro (fun hr => ?_) (fun _ => hend)
    obtain ⟨h1, h2, _⟩ := right_iff.1 hr
    obtain ⟨m, hm⟩ := Int.eq_ofNat_of_zero_le h1
    refine fun _ => upd_Text_c p.1 p.2 _ fun _ _ => ?_
    have hp := UInt32.toNat_lt p.1
    have ht : pT p.1 p.2 = pfT p.1.toNat m := by unfold pT; rw [if_pos hr, hm, Int.toNat_natCast]
    have hx := pfx_txt (a := p.1.toNat) (n := m) hp (by rw [← hm]; exact hr)
    rw [ht]
    refine pfx_c _ _ (by have := pfT_len p.1.toNat m (by omega); omega) (fun a n he _ => ?_) (fun he => by rw [hx] at he; cases he)
    rw [hx] at he
    simp only [Option.some.injEq, Prod.mk.injEq] at he
    obtain ⟨rfl, rfl⟩ := he
    have hv : (UInt32.ofNat p.1.toNat).toNat = p.1.toNat := by simp
    refine ifF ?_ (ifF rfl hend)
    rw [hv, hm]
    simp
  refine ⟨by omega, by omega, ?_⟩
  have key : ∀ (r : Pf) (e : Int), (fun (x25r0 : UInt32 × Int) (x25r1 : Int) => True) r e → True := fun _ _ _ => trivial
  have fin : ∀ (a b : Pf) (e f : Int), a = b → e = f → (WfPs upd_Right_ps ((p.1, p.2), ()) → upd_Right_q (p.1, p.2) fun x29 => WfPs upd_Right_rs (x29, ()) → WfPs ref21_Right_ps ((p.1, p.2), ()) → ref21_Right_q (p.1, p.2) fun x31 => WfPs ref21_Right_rs (x31, ()) →
      IfB (!(x29 == x31)) (law21_UpdTells_j0 p true fun r => r = true) (WfPs upd_Within_ps ((p.1, p.2), (q.1, q.2), ()) → upd_Within_q (p.1, p.2) (q.1, q.2) fun x36 => WfPs upd_Within_rs (x36, ()) → WfPs ref21_Within_ps ((p.1, p.2), (q.1, q.2), ()) → ref21_Within_q (p.1, p.2) (q.1, q.2) fun x39 => WfPs ref21_Within_rs (x39, ()) →
        IfB (!(x36 == x39)) (law21_UpdTells_j0 p true fun r => r = true) (WfPs upd_Text_ps ((p.1, p.2), ()) → upd_Text_q (p.1, p.2) fun x44 => WfPs upd_Text_rs (x44, ()) → WfPs ref21_Text_ps ((p.1, p.2), ()) → ref21_Text_q (p.1, p.2) fun x46 => WfPs ref21_Text_rs (x46, ()) →
          IfB (!(x44 == x46)) (law21_UpdTells_j0 p true fun r => r = true) (IfB (!((((a.1.toNat : Int) : Int) == (b.1.toNat : Int)) && (((a.2 : Int) == b.2) && true))) (law21_UpdTells_j0 p true fun r => r = true) (law21_UpdTells_j0 p ((e : Int) != f) fun r => r = true))))) := by
    rintro a b e f rfl rfl _
    refine right_c p.1 p.2 _ fun _ _ => ref_right_c p.1 p.2 _ fun _ => ifF (by simp) fun _ => within_c (p.1, p.2) (q.1, q.2) _ fun _ _ => ref_within_c (p.1, p.2) (q.1, q.2) _ fun _ => ifF (by simp) fun _ => upd_Text_c p.1 p.2 _ fun _ _ => ref_Text_c p.1 p.2 _ fun _ => ifF (by simp) (ifF (by simp) ?_)
    have : ((e : Int) != e) = false := by simp
    rw [this]; exact h0
  refine fun _ => pfx_c t _ (by omega) (fun a n he _ _ => ?_) (fun he _ _ => ?_)
  · refine ref_pfx_c t _ (by omega) (fun a' n' he' _ => ?_) (fun he' => by rw [he] at he'; cases he')
    rw [he] at he'
    simp only [Option.some.injEq, Prod.mk.injEq] at he'
    obtain ⟨rfl, rfl⟩ := he'
    exact fin _ _ _ _ rfl rfl
  · refine ref_pfx_c t _ (by omega) (fun a' n' he' => by rw [he] at he'; cases he') (fun _ _ => ?_)
    exact fin _ _ _ _ rfl rfl
end Go.Proofs.YtboagabgpcghcaaGreatDoor
