/-
  Paths (layer 19): what the program's functions and the document's find.
-/
import Derived.Test.YtinilfhnplfhoaaQ
import Derived.Test.YtinilfhnplfhoaaHm1
namespace Go.Proofs.Ytinilfhnplfhoaa
open Go.Sh

abbrev Seg := Bool × List UInt32
/-- How many systems. -/
def cnt (p : List Seg) : Nat := (p.map (·.2.length)).sum
theorem cnt_snoc (p : List Seg) (s : Seg) : cnt (p ++ [s]) = cnt p + s.2.length := by simp [cnt]
theorem cnt_nil : cnt [] = 0 := rfl

theorem path_count_c (p : List Seg) (K : Int → Prop) (hl : p.length ≤ 9223372036854775807) (hc : cnt p ≤ 9223372036854775807) (h : K (cnt p)) : path_count_q p K := by
  unfold path_count_q
  refine LoopJ.list p (fun pre => ((cnt pre : Int), (pre.length : Int), ())) (fun _ => True) rfl trivial (fun pre s post hp _ next hn => ?_) (fun _ next _ => ?_)
  · intro _
    dsimp only [path_count_l3]
    refine ifT (by simp [hp]; omega) ⟨by omega, AtN.of (at_pre hp) fun _ => of_eq (hn trivial) ?_⟩
    have h1 : p.length = pre.length + 1 + post.length := by rw [hp]; simp; omega
    have h2 : cnt p = cnt pre + s.2.length + cnt post := by rw [hp]; simp [cnt]; omega
    rw [wr_i64 (by omega) (by omega), wr_i64 (by omega) (by omega), cnt_snoc]
    simp
  · dsimp only [path_count_l3]
    exact ifF (by simp) h

/-- The place of the first one. -/
theorem index_c (l : List UInt32) (v : Int) (K : Int → Prop) (hl : l.length ≤ 9223372036854775807) (h1 : ∀ i : Nat, (∃ x ∈ l, (x.toNat : Int) = v) → K i) (h2 : (∀ x ∈ l, (x.toNat : Int) ≠ v) → K (-1)) : slices_Indexasl_uint32_uint32_q l v K := by
  unfold slices_Indexasl_uint32_uint32_q
  refine LoopJ.list l (fun pre => ((pre.length : Int), ())) (fun pre => ∀ x ∈ pre, (x.toNat : Int) ≠ v) rfl (by simp) (fun pre x post hp hP next hn => ?_) (fun hP next _ => ?_)
  · intro _
    dsimp only [slices_Indexasl_uint32_uint32_l2]
    refine ifT (by simp [hp]; omega) ⟨by omega, AtN.of (at_pre hp) fun _ => ?_⟩
    refine IfB.intro (fun h => ?_) (fun h => ?_)
    · exact h1 pre.length ⟨x, by simp [hp], by simpa using (by simpa using h : v = (x.toNat : Int)).symm⟩
    · have hne : v ≠ (x.toNat : Int) := by simpa using h
      refine of_eq (hn fun y hy => ?_) ?_
      · rcases List.mem_append.1 hy with hy | hy
        · exact hP y hy
        · simp only [List.mem_singleton] at hy
          subst hy
          exact fun e => hne e.symm
      · have h1 : l.length = pre.length + 1 + post.length := by rw [hp]; simp; omega
        rw [wr_i64 (by omega) (by omega)]
        simp
  · dsimp only [slices_Indexasl_uint32_uint32_l2]
    exact ifF (by simp) (h2 hP)
theorem contains_c (l : List UInt32) (v : Int) (K : Bool → Prop) (hl : l.length ≤ 9223372036854775807) (h : K (l.any fun x => (x.toNat : Int) == v)) : slices_Containsasl_uint32_uint32_q l v K := by
  unfold slices_Containsasl_uint32_uint32_q
  intro _
  refine index_c l v _ hl (fun i hx _ => of_eq h ?_) (fun hx _ => of_eq h ?_)
  · obtain ⟨x, hx, hv⟩ := hx
    rw [List.any_eq_true.2 ⟨x, hx, by simp [hv]⟩]
    simp
  · have : (l.any fun x => (x.toNat : Int) == v) = false := by
      rw [List.any_eq_false]; intro x h; simpa using hx x h
    rw [this]; rfl

theorem u32_ne0 (x : UInt32) : (x != 0) = !((x.toNat : Int) == 0) := by
  by_cases h : x = 0
  · subst h; rfl
  · have : x.toNat ≠ 0 := fun e => h (UInt32.toNat_inj.1 e)
    have h2 : ((x.toNat : Int) == 0) = false := by simpa using this
    rw [h2]
    simp [h]
/-- May a segment be? -/
def partOk (s : Seg) : Bool := decide (0 < s.2.length) && decide (s.2.length ≤ 255) && s.2.all fun x => x != 0
theorem path_part_c (s : Seg) (K : Bool → Prop) (h : K (partOk s)) : path_part_q s K := by
  unfold path_part_q
  refine IfB.intro (fun h1 => IfB.intro (fun h2 => ?_) (fun h2 => of_eq h ?_)) (fun h1 => of_eq h ?_)
  · intro _
    have h1 : 0 < s.2.length := by simpa using h1
    have h2 : s.2.length ≤ 255 := by simp at h2; omega
    refine contains_c s.2 0 _ (by omega) (fun _ => of_eq h ?_)
    have e : (s.2.all fun x => x != 0) = !(s.2.any fun x => (x.toNat : Int) == 0) := by
      rw [List.not_any_eq_all_not]
      congr 1
      funext x
      exact u32_ne0 x
    simp [partOk, h1, h2, e]
  · have : ¬ s.2.length ≤ 255 := by simp at h2; omega
    simp [partOk, this]
  · have : ¬ 0 < s.2.length := by simp at h1; simp [h1]
    simp [partOk, this]
/-- May a path be? -/
def pathOk (p : List Seg) : Bool := p.all partOk && decide (cnt p ≤ 64)
def errIf (b : Bool) : Int := if b then 0 else 2
theorem path_Check_c (p : List Seg) (K : Int → Prop) (hl : p.length ≤ 9223372036854775807) (hc : cnt p ≤ 9223372036854775807) (h : K (errIf (pathOk p))) : path_Check_q p K := by
  unfold path_Check_q
  refine LoopJ.over p (fun pre => ((pre.length : Int), ())) (fun pre => pre.all partOk = true) rfl rfl (fun pre s post hp hn hP next hx => ?_) (fun hP next _ => ?_)
  · intro _
    dsimp only [path_Check_l2]
    refine ifT (decide_eq_true (by omega)) ⟨by omega, AtN.of (at_pre hp) fun _ _ => ?_⟩
    refine path_part_c s _ fun _ => IfB.intro (fun h1 => of_eq h ?_) (fun h1 => of_eq (hx ?_) ?_)
    · have : p.all partOk = false := by
        rw [hp]; simp at h1; simp [h1]
      simp [pathOk, this, errIf]
    · simp at h1
      simp [h1]
      simpa using hP
    · rw [wr_i64 (by omega) (by omega)]; simp
  · dsimp only [path_Check_l2]
    refine ifF (decide_eq_false (by omega)) fun _ => path_count_c p _ hl hc fun _ => IfB.intro (fun h1 => of_eq h ?_) (fun h1 => of_eq h ?_)
    · have : ¬ cnt p ≤ 64 := by simp at h1; omega
      simp [pathOk, this, errIf]
    · have : cnt p ≤ 64 := by simp at h1; omega
      rw [pathOk, hP, decide_eq_true this]; rfl
theorem pathOk_all {p pre post : List Seg} {s : Seg} (hp : p = pre ++ s :: post) (h : partOk s = false) : pathOk p = false := by
  have : p.all partOk = false := by rw [hp]; simp [h]
  simp [pathOk, this]
theorem pathOk_cnt {p : List Seg} (h : 64 < cnt p) : pathOk p = false := by
  have : ¬ cnt p ≤ 64 := by omega
  simp [pathOk, this]
theorem cnt_parts (pre post : List Seg) (s : Seg) : cnt (pre ++ s :: post) = cnt pre + s.2.length + cnt post := by simp [cnt]; omega

theorem ref19_Check_c (p : List Seg) (K : Int → Prop) (hl : p.length ≤ 9223372036854775807) (hc : cnt p ≤ 9223372036854775807) (h : K (errIf (pathOk p))) : ref19_Check_q p K := by
  unfold ref19_Check_q
  refine LoopJ.over p (fun pre => ((cnt pre : Int), (pre.length : Int), ())) (fun pre => pre.all partOk = true ∧ cnt pre ≤ 64) rfl ⟨rfl, by simp [cnt]⟩ (fun pre s post hp hn hP next hx => ?_) (fun hP next _ => ?_)
  · intro _
    dsimp only [ref19_Check_l3]
    have hcs : cnt p = cnt pre + s.2.length + cnt post := by rw [hp, cnt_parts]
    refine ifT (decide_eq_true (by omega)) ⟨by omega, AtN.of (at_pre hp) fun _ => ?_⟩
    have bad : partOk s = false → K 2 := fun hb => of_eq h (by rw [pathOk_all hp hb]; rfl)
    refine IfB.intro (fun h1 => ?_) (fun h1 => ⟨by omega, AtN.of (at_pre hp) fun _ => IfB.intro (fun h2 => ?_) (fun h2 => ?_)⟩)
    · have h1 : s.2.length = 0 := by simpa using h1
      exact bad (by simp [partOk, h1])
    · have h2 : 255 < s.2.length := by simp at h2; omega
      exact bad (by have : ¬ s.2.length ≤ 255 := by omega
                    simp [partOk, this])
    · have h1 : s.2.length ≠ 0 := by simpa using h1
      have h2 : s.2.length ≤ 255 := by simp at h2; omega
      refine LoopJ.over s.2 (fun l => ((l.length : Int), ())) (fun l => l.all (fun x => x != 0) = true) rfl rfl (fun l x r hs hm hL next' hy => ?_) (fun hL next' _ => ?_)
      · intro _
        dsimp only [ref19_Check_l8]
        refine ⟨by omega, AtN.of (at_pre hp) fun _ => ifT (decide_eq_true (by omega)) ⟨by omega, AtN.of (at_pre hp) fun _ => ⟨by omega, AtN.of (at_pre hs) fun _ => IfB.intro (fun h3 => ?_) (fun h3 => of_eq (hy ?_) ?_)⟩⟩⟩
        · refine bad ?_
          have : (s.2.all fun x => x != 0) = false := by
            rw [List.all_eq_false]
            exact ⟨x, by simp [hs], by simp [u32_ne0, h3]⟩
          simp [partOk, this]
        · rw [List.all_append, hL]; simp [u32_ne0, h3]
        · rw [wr_i64 (by omega) (by omega)]; simp
      · dsimp only [ref19_Check_l8]
        refine ⟨by omega, AtN.of (at_pre hp) fun _ => ifF (decide_eq_false (by omega)) ⟨by omega, AtN.of (at_pre hp) fun _ => ?_⟩⟩
        rw [wr_i64 (by omega) (by omega)]
        refine IfB.intro (fun h3 => of_eq h ?_) (fun h3 => of_eq (hx ⟨?_, ?_⟩) ?_)
        · have h3 : 64 < cnt pre + s.2.length := by simp at h3; omega
          rw [pathOk_cnt (by omega)]; rfl
        · have : partOk s = true := by simp [partOk, h2]; exact ⟨by omega, by simpa using hL⟩
          rw [List.all_append, hP.1]; simp [this]
        · have h3 : cnt pre + s.2.length ≤ 64 := by simp at h3; omega
          rw [cnt_snoc]; omega
        · rw [wr_i64 (by omega) (by omega), cnt_snoc]; simp
  · dsimp only [ref19_Check_l3]
    refine ifF (decide_eq_false (by omega)) (of_eq h ?_)
    simp [pathOk, hP.1, hP.2, errIf]

/-- A path's bytes. -/
def encAS (four : Bool) (x : UInt32) : List UInt8 := if four then be4 x.toNat else be2 (if x.toNat > 65535 then 23456 else x.toNat)
def encSeg (four : Bool) (s : Seg) : List UInt8 := [if s.1 then 1 else 2, UInt8.ofNat s.2.length] ++ s.2.flatMap (encAS four)
def encPath (four : Bool) (p : List Seg) : List UInt8 := p.flatMap (encSeg four)
theorem encAS_len (four : Bool) (x : UInt32) : (encAS four x).length ≤ 4 := by unfold encAS; split <;> simp [be4, be2]
theorem encASs_len (four : Bool) : ∀ l : List UInt32, (l.flatMap (encAS four)).length ≤ 4 * l.length
  | [] => by simp
  | x :: l => by
    have h1 := encAS_len four x
    have h2 := encASs_len four l
    simp only [List.flatMap_cons, List.length_append, List.length_cons]
    omega
theorem encPath_len (four : Bool) : ∀ p : List Seg, (encPath four p).length ≤ 2 * p.length + 4 * cnt p
  | [] => by simp [encPath]
  | s :: p => by
    have h1 := encASs_len four s.2
    have h2 := encPath_len four p
    have h3 : cnt (s :: p) = s.2.length + cnt p := by simp [cnt]
    have h4 : (encPath four (s :: p)).length = 2 + (s.2.flatMap (encAS four)).length + (encPath four p).length := by simp [encPath, encSeg]; omega
    simp only [List.length_cons]
    omega
theorem parts_len : ∀ p : List Seg, p.all partOk = true → p.length ≤ cnt p
  | [], _ => by simp
  | s :: p, h => by
    simp only [List.all_cons, Bool.and_eq_true] at h
    have h1 := parts_len p h.2
    have h2 : 0 < s.2.length := by have := h.1; simp only [partOk, Bool.and_eq_true, decide_eq_true_eq] at this; exact this.1.1
    have h3 : cnt (s :: p) = s.2.length + cnt p := by simp [cnt]
    simp only [List.length_cons]
    omega
theorem encPath_snoc (four : Bool) (p : List Seg) (s : Seg) : encPath four (p ++ [s]) = encPath four p ++ encSeg four s := by simp [encPath]
/-- What is written on the way is short. -/
theorem enc_short {four : Bool} {p pre post : List Seg} {s : Seg} (hp : p = pre ++ s :: post) (hok : pathOk p = true) : (encPath four pre).length + 4 * s.2.length + 10 ≤ 1000 := by
  simp only [pathOk, Bool.and_eq_true, decide_eq_true_eq] at hok
  have h1 := parts_len p hok.1
  have h2 := encPath_len four pre
  have h3 := cnt_parts pre post s
  rw [← hp] at h3
  have h4 : pre.length ≤ p.length := by rw [hp]; simp
  omega
theorem encAS_four (x : UInt32) : encAS true x = [UInt8.ofNat (x.toNat / 16777216), UInt8.ofNat (x.toNat / 65536), UInt8.ofNat (x.toNat / 256), UInt8.ofNat x.toNat] := rfl

theorem path_kind_c (s : Seg) (K : Int → Prop) (h : K (if s.1 then 1 else 2)) : path_kind_q s K := by
  unfold path_kind_q
  refine IfB.intro (fun h1 => of_eq h ?_) (fun h1 => of_eq h ?_) <;> simp [h1]

theorem path_Put_c (p : List Seg) (four : Bool) (K : List UInt8 → Int → Prop) (hl : p.length ≤ 9223372036854775807) (hc : cnt p ≤ 9223372036854775807) (h : K (if pathOk p then encPath four p else []) (errIf (pathOk p))) : path_Put_q p four K := by
  unfold path_Put_q
  intro _
  refine path_Check_c p _ hl hc fun _ => IfB.intro (fun h1 => ?_) (fun h1 => ?_)
  · have : pathOk p = false := by cases hb : pathOk p <;> simp [errIf, hb] at h1 ⊢
    rw [this] at h ⊢
    exact h
  · have hok : pathOk p = true := by cases hb : pathOk p <;> simp [errIf, hb] at h1 ⊢
    rw [hok] at h
    refine LoopJ.over p (fun pre => (encPath four pre, (pre.length : Int), ())) (fun _ => True) rfl trivial (fun pre s post hp hn _ next hx => ?_) (fun _ next _ => ?_)
    · intro _
      dsimp only [path_Put_l6]
      have hsh := enc_short (four := four) hp hok
      refine ifT (decide_eq_true (by omega)) ⟨by omega, AtN.of (at_pre hp) fun _ _ => path_kind_c s _ fun _ => ⟨by simp only [List.length_cons, List.length_nil]; omega, ?_⟩⟩
      refine LoopJ.over s.2 (fun l => (encPath four pre ++ [if s.1 then 1 else 2, UInt8.ofNat s.2.length] ++ l.flatMap (encAS four), (l.length : Int), ())) (fun _ => True) ?_ trivial (fun l x r hs hm _ next' hy => ?_) (fun _ next' _ => ?_)
      · rw [of8w]
        cases s.1 <;> simp [ofI]
      · intro _
        dsimp only [path_Put_l10]
        have h5 := encASs_len four l
        refine ifT (decide_eq_true (by omega)) ⟨by omega, AtN.of (at_pre hs) fun _ => IfB.intro (fun h1 => ?_) (fun h1 => IfB.intro (fun h2 => ?_) (fun h2 => ?_))⟩
        · refine ⟨by omega, by omega, by simp only [List.length_append, List.length_cons, List.length_nil]; omega, by decide, by simp only [List.length_append, List.length_cons, List.length_nil]; omega, ?_⟩
          dsimp only [path_Put_j1]
          refine of_eq (hy trivial) ?_
          rw [wr_i64 (by omega) (by omega), fdiv_1, fdiv_2, fdiv_3, of8w, of8w, of8w, of8w]
          simp [h1, encAS_four]
        · refine ⟨by decide, by simp only [List.length_append, List.length_cons, List.length_nil]; omega, ?_⟩
          dsimp only [path_Put_j1]
          refine of_eq (hy trivial) ?_
          have h2 : x.toNat > 65535 := by simp at h2; omega
          rw [wr_i64 (by omega) (by omega)]
          simp [h1, encAS, h2, be2]
          decide
        · refine ⟨by decide, by simp only [List.length_append, List.length_cons, List.length_nil]; omega, ?_⟩
          dsimp only [path_Put_j1]
          refine of_eq (hy trivial) ?_
          have h2 : ¬ x.toNat > 65535 := by simp at h2; omega
          rw [wr_i64 (by omega) (by omega), fdiv_1, of8w, of8w]
          simp [h1, encAS, h2, be2]
      · dsimp only [path_Put_l10]
        refine ifF (decide_eq_false (by omega)) (of_eq (hx trivial) ?_)
        rw [wr_i64 (by omega) (by omega), encPath_snoc]
        simp [encSeg]
    · dsimp only [path_Put_l6]
      exact ifF (decide_eq_false (by omega)) h

theorem ref19_Put_c (p : List Seg) (four : Bool) (K : List UInt8 → Int → Prop) (hl : p.length ≤ 9223372036854775807) (hc : cnt p ≤ 9223372036854775807) (h : K (if pathOk p then encPath four p else []) (errIf (pathOk p))) : ref19_Put_q p four K := by
  unfold ref19_Put_q
  intro _
  refine ref19_Check_c p _ hl hc fun _ => IfB.intro (fun h1 => ?_) (fun h1 => ?_)
  · have : pathOk p = false := by cases hb : pathOk p <;> simp [errIf, hb] at h1 ⊢
    rw [this] at h
    exact h
  · have hok : pathOk p = true := by cases hb : pathOk p <;> simp [errIf, hb] at h1 ⊢
    rw [hok] at h
    refine LoopJ.over p (fun pre => (encPath four pre, (pre.length : Int), ())) (fun _ => True) rfl trivial (fun pre s post hp hn _ next hx => ?_) (fun _ next _ => ?_)
    · intro _
      dsimp only [ref19_Put_l5]
      have hsh := enc_short (four := four) hp hok
      have main : ref19_Put_j0 p four (encPath four pre) (pre.length : Int) next (if s.1 then 1 else 2) K := by
        refine ⟨by omega, AtN.of (at_pre hp) fun _ => ⟨by simp only [List.length_cons, List.length_nil]; omega, ?_⟩⟩
        refine LoopJ.over s.2 (fun l => (encPath four pre ++ [if s.1 then 1 else 2, UInt8.ofNat s.2.length] ++ l.flatMap (encAS four), (l.length : Int), ())) (fun _ => True) ?_ trivial (fun l x r hs hm _ next' hy => ?_) (fun _ next' _ => ?_)
        · rw [of8w]
          cases s.1 <;> simp [ofI]
        · intro _
          dsimp only [ref19_Put_l12]
          have h5 := encASs_len four l
          have hlt := u32_lt x
          refine ⟨by omega, AtN.of (at_pre hp) fun _ => ifT (decide_eq_true (by omega)) ⟨by omega, AtN.of (at_pre hp) fun _ => ⟨by omega, AtN.of (at_pre hs) fun _ => IfB.intro (fun h1 => ?_) (fun h1 => IfB.intro (fun h2 => ?_) (fun h2 => ?_))⟩⟩⟩
          · refine ⟨by decide, by decide, by decide, by decide, by decide, by decide, by simp only [List.length_append, List.length_cons, List.length_nil]; omega, ?_⟩
            dsimp only [ref19_Put_j1]
            refine of_eq (hy trivial) ?_
            rw [wr_i64 (by omega) (by omega), tdiv_1, tdiv_2, tdiv_3, wu32 (by omega), wu32 (by omega), wu32 (by omega), tmod_1, tmod_1, tmod_1, of8w, of8w, of8w, of8w]
            simp [h1, encAS_four, u8_mod]
          · refine ⟨by decide, by decide, by simp only [List.length_append, List.length_cons, List.length_nil]; omega, ?_⟩
            dsimp only [ref19_Put_j1]
            refine of_eq (hy trivial) ?_
            have h2 : x.toNat > 65535 := by simp at h2; omega
            rw [wr_i64 (by omega) (by omega)]
            simp [h1, encAS, h2, be2]
            decide
          · refine ⟨by decide, by decide, by simp only [List.length_append, List.length_cons, List.length_nil]; omega, ?_⟩
            dsimp only [ref19_Put_j1]
            refine of_eq (hy trivial) ?_
            have h2 : ¬ x.toNat > 65535 := by simp at h2; omega
            rw [wr_i64 (by omega) (by omega), tdiv_1, wu32 (by omega), tmod_1, of8w, of8w]
            simp [h1, encAS, h2, be2, u8_mod]
        · dsimp only [ref19_Put_l12]
          refine ⟨by omega, AtN.of (at_pre hp) fun _ => ifF (decide_eq_false (by omega)) (of_eq (hx trivial) ?_)⟩
          rw [wr_i64 (by omega) (by omega), encPath_snoc]
          simp [encSeg]
      refine ifT (decide_eq_true (by omega)) ⟨by omega, AtN.of (at_pre hp) fun _ => IfB.intro (fun h1 => ?_) (fun h1 => ?_)⟩
      · rw [h1] at main; exact main
      · rw [h1] at main; exact main
    · dsimp only [ref19_Put_l5]
      exact ifF (decide_eq_false (by omega)) h

theorem ref19_Copy_c (p : List Seg) (K : List Seg → Prop) (hl : p.length < 1000000000) (hs : ∀ s ∈ p, s.2.length ≤ 35184372088736) (h : K p) : ref19_Copy_q p K := by
  unfold ref19_Copy_q
  refine LoopJ.over p (fun pre => (pre, (pre.length : Int), ())) (fun _ => True) rfl trivial (fun pre s post hp hn _ next hx => ?_) (fun _ next _ => ?_)
  · intro _
    dsimp only [ref19_Copy_l3]
    have := hs s (by simp [hp])
    refine ifT (decide_eq_true (by omega)) ⟨by omega, AtN.of (at_pre hp) fun _ => ⟨by omega, AtN.of (at_pre hp) fun _ => ⟨by simpa using this, by simp only [List.length_cons, List.length_nil]; omega, of_eq (hx trivial) ?_⟩⟩⟩
    rw [wr_i64 (by omega) (by omega)]; simp
  · dsimp only [ref19_Copy_l3]
    exact ifF (decide_eq_false (by omega)) h

end Go.Proofs.Ytinilfhnplfhoaa
