/-
  Laws by which the printed conditions are met: branches, blocks, frames, append, copy, make.
-/
import Derived.Test.YthojhkhiamomnaaGreatSh12
set_option linter.unusedSectionVars false
set_option linter.unusedSimpArgs false
set_option linter.unusedVariables false
namespace Go.Sh

@[simp] theorem IfB_true {X Y : Prop} : IfB true X Y = X := rfl
@[simp] theorem IfB_false {X Y : Prop} : IfB false X Y = Y := rfl
@[simp] theorem NilP_some {a : Addr} {k : Addr → Prop} : NilP (some a) k = k a := rfl
@[simp] theorem elemAt_none {b o m s : Nat} {k : Addr → Prop} : elemAt ⟨b, o, none⟩ m s k = k ⟨b, o + m * s, none⟩ := rfl
theorem InB.intro {n : Int} {len : Nat} {k : Nat → Prop} (m : Nat) (hm : n = m) (h : m < len) (hk : k m) : InB n len k := by
  subst hm; exact ⟨by omega, by omega, hk⟩
theorem InC.intro {n : Int} {len : Nat} {k : Nat → Prop} (m : Nat) (hm : n = m) (h : m ≤ len) (hk : k m) : InC n len k := by
  subst hm; exact ⟨by omega, by omega, hk⟩

theorem wrap_id {n : Int} (h1 : -9223372036854775808 ≤ n) (h2 : n ≤ 9223372036854775807) : IntKind.wrap .i64 n = n := IntWalk.i64_in n ⟨h1, h2⟩

/-- Block b is a row of cells. -/
def Blk (H : Heap) (b : Nat) (T : TypeId) (c : Array Value) : Prop := H b = some (.cells c T (0, 0))

theorem Blk.ne {H : Heap} {b n : Nat} {T : TypeId} {c : Array Value} (h : Blk H b T c) (hn : H n = none) : b ≠ n := fun e => by
  subst e; unfold Blk at h; rw [hn] at h; cases h
theorem Blk.some {H : Heap} {b : Nat} {T : TypeId} {c : Array Value} (h : Blk H b T c) : H b ≠ none := fun e => by unfold Blk at h; rw [e] at h; cases h
theorem Blk.cell {H : Heap} {b : Nat} {T : TypeId} {c : Array Value} (h : Blk H b T c) (o : Nat) : H.cell ⟨b, o, none⟩ = c[o]? := by
  unfold Blk at h
  simp only [Heap.cell, h]
  rfl
theorem Blk.upd_eq {H : Heap} {b : Nat} {T : TypeId} {c : Array Value} : Blk (H.upd b (.cells c T (0, 0))) b T c := Sh.upd_eq
theorem Blk.upd_ne {H : Heap} {b n : Nat} {T : TypeId} {c : Array Value} {o : Obj} (h : Blk H b T c) (hn : b ≠ n) : Blk (H.upd n o) b T c := by
  unfold Blk; rw [Sh.upd_ne hn]; exact h
theorem Blk.same {H H' : Heap} {b : Nat} {T : TypeId} {c : Array Value} (h : Blk H b T c) (e : H' b = H b) : Blk H' b T c := by
  unfold Blk; rw [e]; exact h

/-- Of what was there only the blocks of S may have turned; none has gone. -/
structure Keep (S : Nat → Prop) (H H' : Heap) : Prop where
  same : ∀ b, ¬ S b → H b ≠ none → H' b = H b
  live : ∀ b, H b ≠ none → H' b ≠ none

def Nil : Nat → Prop := fun _ => False

theorem Keep.refl (S : Nat → Prop) (H : Heap) : Keep S H H := ⟨fun _ _ _ => rfl, fun _ h => h⟩
theorem Keep.trans {S : Nat → Prop} {A B C : Heap} (h : Keep S A B) (k : Keep S B C) : Keep S A C :=
  ⟨fun b hs hb => (k.same b hs (h.live b hb)).trans (h.same b hs hb), fun b hb => k.live b (h.live b hb)⟩
theorem Keep.mono {S S' : Nat → Prop} {A B : Heap} (h : Keep S A B) (hs : ∀ b, S b → S' b) : Keep S' A B := ⟨fun b hb => h.same b fun x => hb (hs b x), h.live⟩
/-- What a later step turns was not there at first. -/
theorem Keep.then {S S' : Nat → Prop} {A B C : Heap} (h : Keep S A B) (k : Keep S' B C) (hs : ∀ b, S' b → S b ∨ A b = none) : Keep S A C :=
  ⟨fun b hb ha => (k.same b (fun x => (hs b x).elim hb ha) (h.live b ha)).trans (h.same b hb ha), fun b hb => k.live b (h.live b hb)⟩
theorem Keep.free {S : Nat → Prop} {A B : Heap} (h : Keep S A B) {n : Nat} (hn : B n = none) : A n = none := by
  cases ha : A n with
  | none => rfl
  | some o => exact absurd hn (h.live n (by rw [ha]; simp))
theorem Keep.upd {S : Nat → Prop} {A B : Heap} (h : Keep S A B) {n : Nat} {o : Obj} (hn : S n ∨ A n = none) : Keep S A (B.upd n o) :=
  ⟨fun b hb ha => by
    have hne : b ≠ n := fun e => by subst e; exact hn.elim hb ha
    rw [Sh.upd_ne hne]; exact h.same b hb ha, fun b hb => by
    by_cases e : b = n
    · subst e; rw [Sh.upd_eq]; simp
    · rw [Sh.upd_ne e]; exact h.live b hb⟩
theorem Keep.new {S : Nat → Prop} {A B : Heap} (h : Keep S A B) {n : Nat} {o : Obj} (hn : B n = none) : Keep S A (B.upd n o) := h.upd (.inr (h.free hn))
theorem Keep.blk {S : Nat → Prop} {A B : Heap} (h : Keep S A B) {b : Nat} {T : TypeId} {c : Array Value} (hb : Blk A b T c) (hs : ¬ S b) : Blk B b T c := hb.same (h.same b hs hb.some)

theorem NewW.intro {H : Heap} {o : Obj} {k : Nat → Heap → Prop} (h : ∀ n, H n = none → k n (H.upd n o)) : NewW H o k := h

theorem StCell.blk {H : Heap} {b o : Nat} {v : Value} {K : Heap → Prop} {T : TypeId} {c : Array Value} (hb : Blk H b T c) (ho : o < c.size) (hv : plainC v = true)
    (h : K (H.upd b (.cells (c.setIfInBounds o v) T (0, 0)))) : StCell H ⟨b, o, none⟩ v K := by
  unfold StCell
  rw [hv]
  exact ⟨c, T, 0, 0, hb, ho, by simp, h⟩

theorem ByteArray.size_eq (s : ByteArray) : s.size = s.data.size := rfl

/-- k cells from a on (from a nil slice's base: none) hold xs. -/
def Reads (H : Heap) (base : Option Addr) (k : Nat) (xs : List Value) : Prop :=
  xs.length = k ∧ match base with
  | none => k = 0
  | some a => 0 < k → a.spot = none ∧ ∃ c T fr, H a.block = some (.cells c T fr) ∧ ∀ j, j < k → c[a.off + j]? = xs[j]?

theorem Reads.len {H : Heap} {base : Option Addr} {k : Nat} {xs : List Value} (h : Reads H base k xs) : xs.length = k := h.1
theorem Reads.nil {H : Heap} : Reads H Option.none 0 [] := ⟨rfl, rfl⟩
theorem Reads.blk {H : Heap} {b o : Nat} {k : Nat} {xs : List Value} {T : TypeId} {c : Array Value} (hb : Blk H b T c) (hl : xs.length = k) (h : ∀ j, j < k → c[o + j]? = xs[j]?) : Reads H (some ⟨b, o, Option.none⟩) k xs :=
  ⟨hl, fun _ => ⟨rfl, c, T, _, hb, h⟩⟩
theorem Reads.cell {H : Heap} {a : Addr} {k : Nat} {xs : List Value} (h : Reads H (some a) k xs) {j : Nat} (hj : j < k) : H.cell ⟨a.block, a.off + j, Option.none⟩ = xs[j]? := by
  obtain ⟨_, c, T, fr, hb, hc⟩ := h.2 (show 0 < k by omega)
  simp only [Heap.cell, hb]
  exact hc j hj
theorem Reads.keep {S : Nat → Prop} {H H' : Heap} {base : Option Addr} {k : Nat} {xs : List Value} (h : Reads H base k xs) (hk : Keep S H H') (hs : ∀ a, base = some a → ¬ S a.block) : Reads H' base k xs := by
  cases base with
  | none => exact h
  | some a =>
    refine ⟨h.1, fun h0 => ?_⟩
    obtain ⟨hsp, c, T, fr, hb, hc⟩ := h.2 h0
    exact ⟨hsp, c, T, fr, by rw [hk.same _ (hs a rfl) (by rw [hb]; simp)]; exact hb, hc⟩
theorem Reads.take {H : Heap} {base : Option Addr} {k : Nat} {xs : List Value} (h : Reads H base k xs) {m : Nat} (hm : m ≤ k) : Reads H base m (xs.take m) := by
  cases base with
  | none =>
    obtain ⟨hl, hk⟩ := h
    exact ⟨by simp only [List.length_take]; omega, by simp only at hk ⊢; omega⟩
  | some a =>
    obtain ⟨hl, h⟩ := h
    refine ⟨by simp only [List.length_take]; omega, fun (h0 : 0 < m) => ?_⟩
    obtain ⟨hsp, c, T, fr, hb, hc⟩ := h (Nat.lt_of_lt_of_le h0 hm)
    refine ⟨hsp, c, T, fr, hb, fun j hj => ?_⟩
    rw [hc j (by omega), List.getElem?_take_of_lt hj]

theorem semW_reads {P : Program} {H : Heap} {a : Addr} {k : Nat} {xs : List Value} {K : Array Value → Heap → Prop} (h : Reads H (some a) k xs) (hk : K ⟨xs⟩ H) : SemW P (loadCells a k) H K := by
  obtain ⟨hl, h⟩ := h
  refine semW_loadCells k 0 #[] xs hl (fun j hj => ?_) (by simpa using hk)
  obtain ⟨hsp, c, T, fr, hb, hc⟩ := h (show 0 < k by omega)
  rw [Nat.zero_add, add_of_spot hsp]
  simp only [Heap.cell, hb]
  exact hc j (by omega)

theorem semW_firstCells {P : Program} {H : Heap} {base : Option Addr} {size n cl cap : Nat} {xs : List Value} {K : Array Value → Heap → Prop} (h : Reads H base (n * size) xs) (hk : K ⟨xs⟩ H) :
    SemW P (Builtin.firstCells size n (.slice base cl cap)) H K := by
  cases base with
  | none =>
    obtain ⟨hl, h0⟩ := h
    obtain rfl : xs = [] := by apply List.eq_nil_of_length_eq_zero; simp only at h0; omega
    exact hk
  | some a => exact semW_reads h hk

/-- Cells written one behind the other into a block. -/
def putRow (c : Array Value) : Nat → List Value → Array Value
  | _, [] => c
  | o, v :: vs => putRow (c.setIfInBounds o v) (o + 1) vs
theorem putRow_size : ∀ (vs : List Value) (c : Array Value) (o : Nat), (putRow c o vs).size = c.size
  | [], _, _ => rfl
  | v :: vs, c, o => by rw [putRow, putRow_size vs]; simp
theorem putRow_get : ∀ (vs : List Value) (c : Array Value) (o j : Nat), o + vs.length ≤ c.size → (putRow c o vs)[j]? = if o ≤ j ∧ j < o + vs.length then vs[j - o]? else c[j]?
  | [], c, o, j, _ => by
    simp only [putRow]
    rw [if_neg (by simp only [List.length_nil]; omega)]
  | v :: vs, c, o, j, h => by
    simp only [List.length_cons] at h
    rw [putRow, putRow_get vs _ (o + 1) j (by simp; omega)]
    by_cases h1 : j = o
    · subst h1
      rw [if_neg (by omega), if_pos (by simp), Array.getElem?_setIfInBounds_self_of_lt (by omega)]
      simp
    · by_cases h2 : o + 1 ≤ j ∧ j < o + 1 + vs.length
      · rw [if_pos h2, if_pos (by simp; omega)]
        have : j - o = (j - (o + 1)) + 1 := by omega
        rw [this, List.getElem?_cons_succ]
      · rw [if_neg h2, if_neg (by simp; omega), Array.getElem?_setIfInBounds_ne (fun e => h1 e.symm)]

theorem semW_storeCells {P : Program} {b : Nat} {T : TypeId} {K : Unit → Heap → Prop} {o : Nat} : ∀ (vs : List Value) (i : Nat) (H : Heap) (c : Array Value), Blk H b T c → (∀ v ∈ vs, plainC v = true) → o + i + vs.length ≤ c.size →
    (∀ H', Blk H' b T (putRow c (o + i) vs) → (∀ b', b' ≠ b → H' b' = H b') → K () H') → SemW P (storeCells ⟨b, o, none⟩ vs i) H K := by
  intro vs
  induction vs with
  | nil => exact fun i H c hb _ _ hk => hk H hb fun _ _ => rfl
  | cons v vs ih =>
    intro i H c hb hv hl hk
    simp only [List.length_cons] at hl
    unfold storeCells
    refine (SemW.bind _ _ _ _).2 ?_
    have ha : (⟨b, o, none⟩ : Addr).add i = ⟨b, o + i, none⟩ := add_of_spot rfl i
    rw [ha]
    have hst : StCell H ⟨b, o + i, none⟩ v (fun H1 => SemW P (storeCells ⟨b, o, none⟩ vs (i + 1)) H1 K) := by
      refine StCell.blk hb (by omega) (hv v List.mem_cons_self) ?_
      refine ih (i + 1) _ _ Blk.upd_eq (fun v hv' => hv v (List.mem_cons_of_mem _ hv')) (by simp; omega) fun H' hb' ho => ?_
      refine hk H' (by simpa [putRow, Nat.add_assoc] using hb') fun b' hne => ?_
      rw [ho b' hne, Sh.upd_ne hne]
    obtain ⟨h1, h2, h3, h4⟩ := StCell.elim hst
    exact ⟨h1, h2, h3, h4⟩

theorem growBy_le (newLen : Nat) : ∀ (r c : Nat), c ≤ newLen + newLen / 4 + 192 → Builtin.growBy newLen r c ≤ newLen + newLen / 4 + 192
  | 0, c, h => h
  | r + 1, c, h => by
    unfold Builtin.growBy
    split
    · exact h
    · exact growBy_le newLen r _ (by omega)
theorem nextcap_le (need cap : Nat) (h : cap < need) : Builtin.nextslicecap need cap ≤ 2 * need + 192 := by
  unfold Builtin.nextslicecap
  split
  · omega
  · split
    · omega
    · have := growBy_le need 4 cap (by omega); omega

theorem zeroCells_eq (n : Nat) (z : Array Value) : Builtin.zeroCells z n = ⟨repL n z.toList⟩ := rep_eq n z

theorem appendCut_ge (need old : Nat) (e : TypeId) (t : Nat) : need ≤ (Question.appendCap need old e).cut t := by
  simp only [Question.cut]; omega
theorem appendCut_le (need old : Nat) (e : TypeId) (t : Nat) (h : need ≤ 9223372036854775807) : (Question.appendCap need old e).cut t ≤ 9223372036854775807 := by
  simp only [Question.cut]
  have := Nat.mod_lt t (show 2 ^ 63 - need > 0 by omega)
  omega

/-- append(s, x...): into the room that there is, or into a new row. -/
theorem AppW.intro2 {P : Program} {st xt t e xe : TypeId} {base xb : Option Addr} {sLen sCap n xc sz by_ : Nat} {old new z : List Value} {H : Heap} {K : Value → Heap → Prop} {it : TypeInfo}
    (hu : P.underlying st = some (.slice e)) (hx : P.underlying xt = some (.slice xe)) (hi : P.info? e = some it) (hsz : it.size = sz) (hby : it.bytes = by_) (hb0 : by_ ≠ 0) (hz : zeroL P e = some z)
    (hzl : z.length = sz) (hold : Reads H base (sLen * sz) old) (hnew : Reads H xb (n * sz) new) (hfit : (2 * (sLen + n) + 192) * by_ ≤ 2 ^ 48 ∨ (sCap = 0 ∧ (sLen + n) * by_ ≤ 2 ^ 48))
    (hin : sLen + n ≤ sCap → match base with
      | none => n = 0 ∧ K (.slice none (sLen + n) sCap) H
      | some a => a.spot = none ∧ ∃ c T, Blk H a.block T c ∧ a.off + sCap * sz ≤ c.size ∧ (∀ v ∈ new, plainC v = true) ∧
          ∀ H', Blk H' a.block T (putRow c (a.off + sLen * sz) new) → (∀ b, b ≠ a.block → H' b = H b) → K (.slice (some a) (sLen + n) sCap) H')
    (hout : sCap < sLen + n → ∀ m cap, H m = none → sLen + n ≤ cap → cap ≤ 9223372036854775807 → K (.slice (some ⟨m, 0, none⟩) (sLen + n) cap) (H.upd m (.cells ⟨old ++ new ++ repL (cap - (sLen + n)) z⟩ e))) :
    AppW P #[st, xt] t [.slice base sLen sCap, .slice xb n xc] H K := by
  unfold AppW Builtin.append_
  have hsize : szOf P e = some sz := by unfold szOf; rw [hi, ← hsz]
  refine (SemW.bind _ _ _ _).2 (semW_underlying hu ?_)
  refine (SemW.bind _ _ _ _).2 (semW_szOf hsize ?_)
  refine (SemW.bind _ _ _ _).2 ?_
  refine (SemW.bind _ _ _ _).2 ?_
  change SemW P (underlying xt) H _
  refine semW_underlying hx ?_
  change SemW P (if sLen + n ≤ sCap then _ else _) H K
  by_cases hc : sLen + n ≤ sCap
  · rw [if_pos hc]
    refine (SemW.bind _ _ _ _).2 ?_
    change SemW P (Builtin.firstCells sz n (.slice xb n xc)) H _
    refine semW_firstCells hnew ?_
    have h := hin hc
    cases base with
    | none => exact h.2
    | some a =>
      obtain ⟨hsp, c, T, hb, hlen, hpl, hk⟩ := h
      change SemW P (storeCells (a.add (sLen * sz)) new >>= fun _ => pure (.slice (some a) (sLen + n) sCap)) H K
      refine (SemW.bind _ _ _ _).2 ?_
      rw [add_of_spot hsp]
      have hl2 := hnew.1
      have hmul : (sLen + n) * sz ≤ sCap * sz := Nat.mul_le_mul_right sz hc
      rw [Nat.add_mul] at hmul
      refine semW_storeCells new 0 H c hb hpl (by omega) fun H' hb' ho => ?_
      exact hk H' hb' ho
  · rw [if_neg hc]
    have hcap : sCap < sLen + n := by omega
    have ht : ∀ (K' : TypeInfo → Heap → Prop), K' it H → SemW P (typeInfo e) H K' := fun K' hk => by
      unfold typeInfo
      refine (SemW.bind _ _ _ _).2 ?_
      change SemW P (match P.info? e with | some i => pure i | none => stuck "no such type") H K'
      rw [hi]; exact hk
    change SemW P (typeInfo e >>= _) H K
    refine (SemW.bind _ _ _ _).2 (ht _ ?_)
    rw [hby]
    rw [if_neg (by simp [hb0])]
    change SemW P (typeInfo e >>= _) H K
    refine (SemW.bind _ _ _ _).2 (ht _ ?_)
    rw [hby]
    have hfit' : ¬ (Builtin.nextslicecap (sLen + n) sCap * by_ > 2 ^ 48) := by
      rcases hfit with h | ⟨h0, h⟩
      · have h1 := nextcap_le (sLen + n) sCap hcap
        have h2 : Builtin.nextslicecap (sLen + n) sCap * by_ ≤ (2 * (sLen + n) + 192) * by_ := Nat.mul_le_mul_right by_ h1
        omega
      · subst h0
        have h1 : Builtin.nextslicecap (sLen + n) 0 = sLen + n := by unfold Builtin.nextslicecap; rw [if_pos (by omega)]
        rw [h1]; omega
    rw [if_neg hfit']
    refine (SemW.bind _ _ _ _).2 ⟨fun hq => (by cases hq), fun _ tape => ?_⟩
    have hge := appendCut_ge (sLen + n) sCap e tape
    have hnm : sLen + n ≤ 9223372036854775807 := by
      have hone : sLen + n ≤ (sLen + n) * by_ := Nat.le_mul_of_pos_right _ (Nat.pos_of_ne_zero hb0)
      rcases hfit with h | ⟨_, h⟩
      · have h5 : sLen + n ≤ (2 * (sLen + n) + 192) * by_ := Nat.le_trans hone (Nat.mul_le_mul_right by_ (by omega))
        omega
      · omega
    have hcl := appendCut_le (sLen + n) sCap e tape hnm
    generalize (Question.appendCap (sLen + n) sCap e).cut tape = cap at hge hcl
    change SemW P (typeInfo e >>= _) H K
    refine (SemW.bind _ _ _ _).2 (ht _ ?_)
    have room : ∀ (k : Nat) (s : Sem Value), SemW P s H K → SemW P (do askRoom k; s) H K := fun k s hs => by
      unfold askRoom
      split <;> exact hs
    refine room _ _ ?_
    refine (SemW.bind _ _ _ _).2 (semW_firstCells hold ?_)
    refine (SemW.bind _ _ _ _).2 ?_
    change SemW P (Builtin.firstCells sz n (.slice xb n xc)) H _
    refine semW_firstCells hnew ?_
    change SemW P (zeroValue e >>= _) H K
    refine (SemW.bind _ _ _ _).2 (semW_zero hz fun v hv => ?_)
    change SemW P (newRow e (⟨old⟩ ++ ⟨new⟩ ++ Builtin.zeroCells v.cells (cap - (sLen + n))) >>= _) H K
    refine (SemW.bind _ _ _ _).2 (semW_newRow fun m hm => ?_)
    have he : ((⟨old⟩ : Array Value) ++ ⟨new⟩ ++ Builtin.zeroCells v.cells (cap - (sLen + n))) = ⟨old ++ new ++ repL (cap - (sLen + n)) z⟩ := by
      rw [zeroCells_eq, hv]
      apply Array.ext'; simp
    rw [he]
    exact hout hcap m cap hm hge hcl

theorem AppW.intro {P : Program} {st xt t e xe : TypeId} {base xb : Option Addr} {sLen sCap n xc sz by_ : Nat} {old new z : List Value} {H : Heap} {K : Value → Heap → Prop} {it : TypeInfo}
    (hu : P.underlying st = some (.slice e)) (hx : P.underlying xt = some (.slice xe)) (hi : P.info? e = some it) (hsz : it.size = sz) (hby : it.bytes = by_) (hb0 : by_ ≠ 0) (hz : zeroL P e = some z)
    (hzl : z.length = sz) (hold : Reads H base (sLen * sz) old) (hnew : Reads H xb (n * sz) new) (hfit : (2 * (sLen + n) + 192) * by_ ≤ 2 ^ 48 ∨ (sCap = 0 ∧ (sLen + n) * by_ ≤ 2 ^ 48))
    (hin : sLen + n ≤ sCap → match base with
      | none => n = 0 ∧ K (.slice none (sLen + n) sCap) H
      | some a => a.spot = none ∧ ∃ c T, Blk H a.block T c ∧ a.off + sCap * sz ≤ c.size ∧ (∀ v ∈ new, plainC v = true) ∧
          ∀ H', Blk H' a.block T (putRow c (a.off + sLen * sz) new) → (∀ b, b ≠ a.block → H' b = H b) → K (.slice (some a) (sLen + n) sCap) H')
    (hout : sCap < sLen + n → ∀ m cap, H m = none → sLen + n ≤ cap → K (.slice (some ⟨m, 0, none⟩) (sLen + n) cap) (H.upd m (.cells ⟨old ++ new ++ repL (cap - (sLen + n)) z⟩ e))) :
    AppW P #[st, xt] t [.slice base sLen sCap, .slice xb n xc] H K :=
  AppW.intro2 hu hx hi hsz hby hb0 hz hzl hold hnew hfit hin fun hc m cap hm hcap _ => hout hc m cap hm hcap

/-- make([]T, l, c). -/
theorem MakeW.intro {P : Program} {t e : TypeId} {l c : Nat} {z : List Value} {H : Heap} {K : Value → Heap → Prop} {it : TypeInfo}
    (hu : P.underlying t = some (.slice e)) (hi : P.info? e = some it) (hz : zeroL P e = some z) (hzl : z.length = it.size) (hlc : l ≤ c) (hc : c ≤ 9223372036854775807) (hfit : it.bytes * c ≤ 2 ^ 48)
    (hk : ∀ m, H m = none → K (.slice (some ⟨m, 0, none⟩) l c) (H.upd m (.cells ⟨repL c z⟩ e))) : MakeW P t (.int .i64 l) (.int .i64 c) H K := by
  unfold MakeW Instr.makeSlice
  have hsize : szOf P e = some it.size := by unfold szOf; rw [hi]
  refine (SemW.bind _ _ _ _).2 (semW_underlying hu ?_)
  have ht : ∀ (K' : TypeInfo → Heap → Prop), K' it H → SemW P (typeInfo e) H K' := fun K' hk => by
    unfold typeInfo
    refine (SemW.bind _ _ _ _).2 ?_
    change SemW P (match P.info? e with | some i => pure i | none => stuck "no such type") H K'
    rw [hi]; exact hk
  change SemW P (typeInfo e >>= _) H K
  refine (SemW.bind _ _ _ _).2 (ht _ ?_)
  have wl : IntKind.i64.wrap (l : Int) = l := wrap_id (by omega) (by omega)
  have wc : IntKind.i64.wrap (c : Int) = c := wrap_id (by omega) (by omega)
  rw [wl, wc]
  have hno : (((decide ((c : Int) < 0) || decide ((it.bytes : Int) * (c : Int) > 2 ^ 48)) || decide ((l : Int) < 0)) || decide ((l : Int) > (c : Int))) = false := by
    have h1 : ((it.bytes * c : Nat) : Int) ≤ 2 ^ 48 := by exact_mod_cast hfit
    rw [Int.natCast_mul] at h1
    simp only [Bool.or_eq_false_iff, decide_eq_false_iff_not]
    exact ⟨⟨⟨by omega, by omega⟩, by omega⟩, by omega⟩
  have push : ∀ (b : Bool) (x y : Sem Value), b = false → SemW P y H K → SemW P (if b = true then x else y) H K := fun b x y hb hy => by subst hb; exact hy
  refine push _ _ _ hno ?_
  have room : ∀ (k : Nat) (s : Sem Value), SemW P s H K → SemW P (do askRoom k; s) H K := fun k s hs => by
    unfold askRoom
    split <;> exact hs
  refine room _ _ ?_
  refine (SemW.bind _ _ _ _).2 (semW_szOf hsize ?_)
  have fin : ∀ zero : Array Value, zero = ⟨z⟩ ∨ (c * it.size = 0 ∧ zero = #[]) → SemW P (do
      let a ← newRow e ((Array.range ((c : Int).toNat * it.size)).map (zero[· % zero.size]!))
      pure (Value.slice (some a) (l : Int).toNat (c : Int).toNat)) H K := by
    intro zero hzero
    refine (SemW.bind _ _ _ _).2 (semW_newRow fun m hm => ?_)
    have hrep : ((Array.range ((c : Int).toNat * it.size)).map fun i => zero[i % zero.size]!) = ⟨repL c z⟩ := by
      rw [Int.toNat_natCast]
      rcases hzero with rfl | ⟨h0, rfl⟩
      · rw [← hzl]; exact rep_eq c ⟨z⟩
      · rw [h0]
        have hr : repL c z = [] := by
          apply List.eq_nil_of_length_eq_zero; rw [repL_length, hzl]; exact h0
        rw [hr]; simp
    change K (.slice (some ⟨m, 0, none⟩) (l : Int).toNat (c : Int).toNat) (H.upd m (.cells ((Array.range ((c : Int).toNat * it.size)).map fun i => zero[i % zero.size]!) e))
    rw [hrep]
    exact hk m hm
  have n0 : (c : Int).toNat = c := Int.toNat_natCast c
  by_cases h0 : (c : Int).toNat * it.size = 0
  · have := fin #[] (.inr ⟨by rw [← n0]; exact h0, rfl⟩)
    rw [if_pos h0]
    exact this
  · rw [if_neg h0]
    refine (SemW.bind _ _ _ _).2 (semW_zero hz fun v hv => ?_)
    have := fin ⟨z⟩ (.inl rfl)
    rw [← hv] at this
    exact this

/-- copy(dst, src), dst in a block that is known. -/
theorem CopyW.intro {P : Program} {st xt t e : TypeId} {b o dLen dCap : Nat} {xb : Option Addr} {n xc sz : Nat} {new : List Value} {H : Heap} {K : Value → Heap → Prop} {T : TypeId} {c : Array Value}
    (hu : P.underlying st = some (.slice e)) (hsz : szOf P e = some sz) (hb : Blk H b T c) (hfit : o + dLen * sz ≤ c.size) (hnew : Reads H xb (min n dLen * sz) new) (hpl : ∀ v ∈ new, plainC v = true)
    (hk : ∀ H', Blk H' b T (putRow c o new) → (∀ b', b' ≠ b → H' b' = H b') → K (.int .i64 (min n dLen : Nat)) H') :
    CopyW P #[st, xt] t [.slice (some ⟨b, o, none⟩) dLen dCap, .slice xb n xc] H K := by
  unfold CopyW Builtin.copy_
  refine (SemW.bind _ _ _ _).2 (semW_underlying hu ?_)
  change SemW P (sizeOf e >>= _) H K
  refine (SemW.bind _ _ _ _).2 (semW_szOf hsz ?_)
  refine (SemW.bind _ _ _ _).2 ?_
  change SemW P (Builtin.firstCells sz (Nat.min n dLen) (.slice xb n xc)) H _
  refine semW_firstCells hnew ?_
  change SemW P (storeCells ⟨b, o, none⟩ new >>= fun _ => pure (goInt ((Nat.min n dLen : Nat) : Int))) H K
  refine (SemW.bind _ _ _ _).2 ?_
  have hl := hnew.1
  have hm : min n dLen * sz ≤ dLen * sz := Nat.mul_le_mul_right sz (Nat.min_le_right _ _)
  refine semW_storeCells new 0 H c hb hpl (by omega) fun H' hb' ho => ?_
  exact hk H' hb' ho

/-- string(b). -/
def bstr (bs : List UInt8) : ByteArray := ⟨bs.toArray⟩
theorem bstr_toList (bs : List UInt8) : (bstr bs).toList = bs := by rw [ByteArray.toList_eq]; simp [bstr]

theorem semW_push {P : Program} {H : Heap} {K : ByteArray → Heap → Prop} : ∀ (bs : List UInt8) (s : ByteArray), K ⟨s.data ++ bs.toArray⟩ H →
    SemW P (forIn (bs.map fun x => Value.int .u8 x.toNat) s fun c r => (match c with
        | .int .u8 n => pure (ForInStep.yield (r.push (UInt8.ofNat n.toNat)))
        | _ => do
          stuck "bytesToString: byte expected"
          pure (ForInStep.yield r) : Sem (ForInStep ByteArray))) H K := by
  intro bs
  induction bs with
  | nil => intro s h; simpa [pure, SemW] using h
  | cons x xs ih =>
    intro s h
    rw [List.map_cons, List.forIn_cons]
    refine (SemW.bind _ _ _ _).2 ?_
    change SemW P (forIn (xs.map fun x => Value.int .u8 x.toNat) (s.push (UInt8.ofNat ((x.toNat : Int)).toNat)) _) H K
    have hx : UInt8.ofNat ((x.toNat : Int)).toNat = x := by simp
    rw [hx]
    refine ih (s.push x) ?_
    have : (⟨(s.push x).data ++ xs.toArray⟩ : ByteArray) = ⟨s.data ++ (x :: xs).toArray⟩ := by
      have : (s.push x).data = s.data.push x := by cases s; rfl
      rw [this]
      congr 1
      apply Array.ext'
      simp
    rw [this]; exact h

theorem StrW.intro {P : Program} {s d e : TypeId} {a : Option Addr} {n c : Nat} {bs : List UInt8} {H : Heap} {K : Value → Heap → Prop} (hs : P.underlying s = some (.slice e)) (hd : P.underlying d = some .string) (he : P.underlying e = some (.int .u8))
    (hr : Reads H a n (bs.map fun x => .int .u8 x.toNat)) (hk : K (.string (bstr bs)) H) : SemW P (convert s d (.slice a n c)) H K := by
  unfold convert
  refine (SemW.bind _ _ _ _).2 (semW_underlying hs ?_)
  refine (SemW.bind _ _ _ _).2 (semW_underlying hd ?_)
  change SemW P (underlying e >>= _) H K
  refine (SemW.bind _ _ _ _).2 (semW_underlying he ?_)
  change SemW P (Conv.bytesToString (.slice a n c)) H K
  unfold Conv.bytesToString
  cases a with
  | none =>
    obtain ⟨hl, h0⟩ := hr
    simp only at h0
    subst h0
    have : bs = [] := by simpa using hl
    subst this
    exact hk
  | some a =>
    change SemW P (loadCells a n >>= _) H K
    refine (SemW.bind _ _ _ _).2 (semW_reads hr ?_)
    have h := semW_push (P := P) (H := H) (K := fun s H' => K (.string s) H') bs ByteArray.empty (by simpa [bstr] using hk)
    simp only [← Array.forIn_toList]
    exact (SemW.bind _ _ _ _).2 h

end Go.Sh
