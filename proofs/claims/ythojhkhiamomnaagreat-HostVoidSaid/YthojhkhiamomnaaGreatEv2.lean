/-
  Steps on heaps of the machine: new blocks, cells written, blocks that are gone, rows that grow.
-/
import Derived.Test.YthojhkhiamomnaaGreatEv1
noncomputable section
set_option linter.all false
namespace Go.Ev
variable [Sym]
open Go.Sh

def memN (k : Nat) : List Nat → Bool
  | [] => false
  | j :: l => match Nat.beq k j with
    | true => true
    | false => memN k l
theorem memN.ok {k : Nat} : ∀ {l : List Nat}, memN k l = true → k ∈ l
  | [], h => by cases h
  | j :: l, h => by
    simp only [memN] at h
    split at h
    · rename_i e; rw [Nat.eq_of_beq_eq_true e]; exact List.mem_cons_self
    · exact List.mem_cons_of_mem _ (memN.ok h)
def addN (m : Nat) (k : Nat) (l : List Nat) : List Nat := match Nat.blt k m && !(memN k l) with
  | true => k :: l
  | false => l
theorem addN.old {m k j : Nat} {l : List Nat} (h : j ∈ l) : j ∈ addN m k l := by
  unfold addN
  split
  · exact List.mem_cons_of_mem _ h
  · exact h
theorem addN.new {m k : Nat} {l : List Nat} (h : k < m) : k ∈ addN m k l := by
  unfold addN
  split
  · exact List.mem_cons_self
  · rename_i hb
    have : Nat.blt k m = true := by simp [h]
    rw [this, Bool.true_and, Bool.not_eq_false'] at hb
    exact memN.ok hb
def addAll (m : Nat) : List Nat → List Nat → List Nat
  | [], l => l
  | k :: ks, l => addAll m ks (addN m k l)
theorem addAll.old {m j : Nat} : ∀ (ks : List Nat) {l : List Nat}, j ∈ l → j ∈ addAll m ks l
  | [], _, h => h
  | _ :: ks, _, h => addAll.old ks (addN.old h)
theorem addAll.new {m j : Nat} (hm : j < m) : ∀ (ks : List Nat) {l : List Nat}, j ∈ ks → j ∈ addAll m ks l
  | [], _, h => by cases h
  | k :: ks, l, h => by
    rcases List.mem_cons.1 h with rfl | h
    · exact addAll.old ks (addN.new hm)
    · exact addAll.new hm ks h

def CH.add (h : CH) (o : CObj) : CH := ⟨h.n + 1, h.t.set h.n o, h.m, h.d⟩
def CH.wr (h : CH) (k : Nat) (o : CObj) : CH := ⟨h.n, h.t.set k o, h.m, addN h.m k h.d⟩

theorem live_add_ne {h : CH} {o : CObj} {k : Nat} (e : k ≠ h.n) : live (h.add o) k = live h k := by
  unfold live; simp only [CH.add, Tr.get_set_ne _ _ e]
theorem live_wr_ne {h : CH} {o : CObj} {k j : Nat} (e : j ≠ k) : live (h.wr k o) j = live h j := by
  unfold live; simp only [CH.wr, Tr.get_set_ne _ _ e]
theorem live_wr_eq {h : CH} {o : CObj} {k : Nat} : live (h.wr k o) k = liveO (some o) := by
  unfold live; simp only [CH.wr, Tr.get_set_eq]
theorem live_of {h : CH} {k : Nat} {o : CObj} (e : h.t.get k = some o) (hn : o ≠ .gone) : live h k = true := by
  unfold live; rw [e]
  cases o with
  | gone => exact absurd rfl hn
  | cells => rfl
  | map => rfl
  | loop => rfl
  | iter => rfl

theorem Rl.lt {P : Program} {H0 : Heap} {r : List RB} {h : CH} {H : Heap} (R : Rl P H0 r h H) {k : Nat} {o : CObj} (hk : h.t.get k = some o) : k < h.n := by
  refine Nat.lt_of_not_le fun hle => ?_
  rw [R.top k hle] at hk; cases hk
theorem Rl.at {P : Program} {H0 : Heap} {r : List RB} {h : CH} {H : Heap} (R : Rl P H0 r h H) {k : Nat} (hk : k < h.n) : ∃ b, r[k]? = some b := by
  rw [← R.len] at hk; exact ⟨_, List.getElem?_eq_getElem hk⟩
/-- A live block is there. -/
theorem Rl.thr {P : Program} {H0 : Heap} {r : List RB} {h : CH} {H : Heap} (R : Rl P H0 r h H) {k : Nat} {b : RB} (hb : r[k]? = some b) (hg : live h k = true) : ∃ o, H b.blk = some o := by
  unfold live at hg
  cases e : h.t.get k with
  | none => rw [e] at hg; cases hg
  | some o =>
    have := R.blk k b o hb e
    cases o with
    | cells => obtain ⟨c, h1, _⟩ := this; exact ⟨_, h1⟩
    | map => obtain ⟨c, h1, _⟩ := this; exact ⟨_, h1⟩
    | loop => obtain ⟨c, _, h1, _⟩ := this; exact ⟨_, h1⟩
    | iter => obtain ⟨_, c, _, h1⟩ := this; exact ⟨_, h1⟩
    | gone => rw [e] at hg; cases hg

/-- A new block of the machine, at a block of the model's that no live one lies at. -/
theorem Rl.put {P : Program} {H0 : Heap} {r : List RB} {h : CH} {H H' : Heap} (R : Rl P H0 r h H) {o : CObj} {x : RB} (hfree : ∀ (k : Nat) (b : RB), r[k]? = some b → live h k = true → b.blk ≠ x.blk)
    (hx0 : H0 x.blk = none) (hoth : ∀ j, j ≠ x.blk → H' j = H j) (hB : BR P (r ++ [x]) x H' o) : Rl P H0 (r ++ [x]) (h.add o) H' ∧ Ex r h H (r ++ [x]) (h.add o) H' := by
  have hat : ∀ (k : Nat) (b : RB), (r ++ [x])[k]? = some b → (k = h.n ∧ b = x) ∨ (k < h.n ∧ r[k]? = some b) := by
    intro k b hk
    by_cases e : k < r.length
    · rw [List.getElem?_append_left e] at hk
      exact .inr ⟨R.len ▸ e, hk⟩
    · rw [List.getElem?_append_right (by omega)] at hk
      have h0 : k - r.length = 0 := by
        have := (List.getElem?_eq_some_iff.1 hk).1
        simp at this; omega
      rw [h0] at hk
      simp only [List.getElem?_cons_zero, Option.some.injEq] at hk
      exact .inl ⟨by rw [← R.len]; omega, hk.symm⟩
  refine ⟨⟨?_, ?_, ?_, ?_, ?_, ?_, R.good⟩, ⟨Pre.push _ _, rfl, fun _ h => h, ?_⟩⟩
  · simp [CH.add, R.len]
  · intro k hk
    simp only [CH.add] at hk ⊢
    rw [Tr.get_set_ne _ _ (by omega)]
    exact R.top k (by omega)
  · intro k b o' hb ho
    rcases hat k b hb with ⟨rfl, rfl⟩ | ⟨hk, hb⟩
    · simp only [CH.add, Tr.get_set_eq, Option.some.injEq] at ho
      subst ho; exact hB
    · simp only [CH.add, Tr.get_set_ne _ _ (show k ≠ h.n by omega)] at ho
      have hB' := R.blk k b o' hb ho
      refine BR.mono (Pre.push _ _) _ ?_
      exact BR.same' (fun hn => hoth _ (hfree k b hb (live_of ho hn))) hB'
  · intro k k' b b' hb hb' hg hg' e
    rcases hat k b hb with ⟨e1, e2⟩ | ⟨hk, hb1⟩ <;> rcases hat k' b' hb' with ⟨e3, e4⟩ | ⟨hk', hb2⟩
    · rw [e1, e3]
    · rw [live_add_ne (by omega)] at hg'
      exact absurd (e.symm.trans (by rw [e2])) (hfree k' b' hb2 hg')
    · rw [live_add_ne (by omega)] at hg
      exact absurd (e.trans (by rw [e4])) (hfree k b hb1 hg)
    · rw [live_add_ne (by omega)] at hg hg'
      exact R.inj k k' b b' hb1 hb2 hg hg' e
  · intro k b hb
    rcases hat k b hb with ⟨rfl, rfl⟩ | ⟨hk, hb⟩
    · exact hx0
    · exact R.new k b hb
  · intro b hb
    have hne' : b ≠ x.blk := fun e => by subst e; exact hb hx0
    rw [hoth b hne']; exact R.fr b hb
  · intro k b hb hs _ _
    have hk : k < h.n := by rw [← R.len]; exact (List.getElem?_eq_some_iff.1 hb).1
    exact ⟨hoth _ (hfree k b hb hs), by rw [live_add_ne (by omega)]; exact hs⟩

theorem Rl.fresh {P : Program} {H0 : Heap} {r : List RB} {h : CH} {H : Heap} (R : Rl P H0 r h H) {m : Nat} (hm : H m = none) : H0 m = none := by
  cases e : H0 m with
  | none => rfl
  | some o' =>
    have := R.fr m (by rw [e]; simp)
    rw [hm, e] at this; cases this
/-- A new block. -/
theorem Rl.push {P : Program} {H0 : Heap} {r : List RB} {h : CH} {H : Heap} (R : Rl P H0 r h H) {o : CObj} {m : Nat} {obj : Obj} {x : RB} (hm : H m = none) (hx : x.blk = m)
    (hB : BR P (r ++ [x]) x (H.upd m obj) o) : Rl P H0 (r ++ [x]) (h.add o) (H.upd m obj) ∧ Ex r h H (r ++ [x]) (h.add o) (H.upd m obj) := by
  subst hx
  refine R.put (fun k b hb hg e => ?_) (R.fresh hm) (fun j hj => upd_ne hj) hB
  obtain ⟨o, ho⟩ := R.thr hb hg
  rw [e, hm] at ho; cases ho

/-- A block written. -/
theorem Rl.write {P : Program} {H0 : Heap} {r : List RB} {h : CH} {H H' : Heap} (R : Rl P H0 r h H) {o : CObj} {k : Nat} {b : RB} (hb : r[k]? = some b) (hg : live h k = true)
    (hoth : ∀ j, j ≠ b.blk → H' j = H j) (hB : BR P r b H' o) : Rl P H0 r (h.wr k o) H' ∧ Ex r h H r (h.wr k o) H' := by
  have hk : k < h.n := by rw [← R.len]; exact (List.getElem?_eq_some_iff.1 hb).1
  have hne : ∀ (j : Nat) (x : RB), r[j]? = some x → live h j = true → j ≠ k → x.blk ≠ b.blk := fun j x hx hs hj e => hj (R.inj j k x b hx hb hs hg e)
  refine ⟨⟨R.len, ?_, ?_, ?_, R.new, ?_, R.good⟩, ⟨Pre.refl _, rfl, fun _ h => addN.old h, ?_⟩⟩
  · intro j hj
    simp only [CH.wr] at hj ⊢
    rw [Tr.get_set_ne _ _ (by omega)]
    exact R.top j hj
  · intro j x o' hx ho'
    by_cases e : j = k
    · subst e
      rw [hb] at hx; cases hx
      simp only [CH.wr, Tr.get_set_eq, Option.some.injEq] at ho'
      subst ho'; exact hB
    · simp only [CH.wr, Tr.get_set_ne _ _ e] at ho'
      have hB' := R.blk j x o' hx ho'
      exact BR.same' (fun hn => hoth _ (hne j x hx (live_of ho' hn) e)) hB'
  · intro j j' x x' hx hx' h1 h2 e
    have fix : ∀ j, live (h.wr k o) j = true → live h j = true := by
      intro j h1
      by_cases e : j = k
      · rw [e]; exact hg
      · rw [live_wr_ne e] at h1; exact h1
    exact R.inj j j' x x' hx hx' (fix j h1) (fix j' h2) e
  · intro j hj
    have : j ≠ b.blk := fun e => hj (by rw [e]; exact R.new k b hb)
    rw [hoth j this]; exact R.fr j hj
  · intro j x hx hs hm hd
    have e : j ≠ k := fun e => by
      subst e
      exact hd (addN.new hm)
    exact ⟨hoth _ (hne j x hx hs e), by rw [live_wr_ne e]; exact hs⟩

/-- A block of which a new one of the machine takes the place (or part of it). -/
theorem Rl.move {P : Program} {H0 : Heap} {r : List RB} {h : CH} {H H' : Heap} (R : Rl P H0 r h H) {o : CObj} {k : Nat} {b x : RB} (hb : r[k]? = some b) (hg : live h k = true) (hx : x.blk = b.blk)
    (hoth : ∀ j, j ≠ b.blk → H' j = H j) (hB : BR P (r ++ [x]) x H' o) : Rl P H0 (r ++ [x]) ((h.wr k .gone).add o) H' ∧ Ex r h H (r ++ [x]) ((h.wr k .gone).add o) H' := by
  obtain ⟨R1, E1⟩ := R.write (H' := H) (o := .gone) hb hg (fun _ _ => rfl) trivial
  have key := R1.put (H' := H') (x := x) (o := o) (fun j y hy hs e => ?_) (by rw [hx]; exact R.new k b hb) (fun j hj => hoth j (by rw [← hx]; exact hj)) hB
  · exact ⟨key.1, Ex.trans E1 key.2⟩
  · by_cases e' : j = k
    · subst e'; rw [live_wr_eq] at hs; cases hs
    · rw [live_wr_ne e'] at hs
      exact e' (R.inj j k y b hy hb hs hg (e.trans hx))
/-- A block that is gone, and a new one. -/
theorem Rl.grown {P : Program} {H0 : Heap} {r : List RB} {h : CH} {H : Heap} (R : Rl P H0 r h H) {o : CObj} {k : Nat} {b x : RB} {m : Nat} {obj : Obj} (hb : r[k]? = some b) (hg : live h k = true) (hm : H m = none) (hx : x.blk = m)
    (hB : BR P (r ++ [x]) x (H.upd m obj) o) : Rl P H0 (r ++ [x]) ((h.wr k .gone).add o) (H.upd m obj) ∧ Ex r h H (r ++ [x]) ((h.wr k .gone).add o) (H.upd m obj) := by
  obtain ⟨R1, E1⟩ := R.write (H' := H) (o := .gone) hb hg (fun _ _ => rfl) trivial
  have key := R1.push (o := o) (obj := obj) hm hx hB
  exact ⟨key.1, Ex.trans E1 key.2⟩

/-! ### Cells written -/
theorem atC_set {d : CV} {t : Tr CV} {i j : Nat} {x : CV} : atC d (t.set i x) j = if j = i then x else atC d t j := by
  unfold atC
  rw [Tr.get_set]
  by_cases e : j = i
  · rw [if_pos e, if_pos e]
  · rw [if_neg e, if_neg e]
theorem atC_fill {d : CV} {t : Tr CV} {i j : Nat} {xs : List CV} : atC d (t.fill i xs) j = if i ≤ j ∧ j < i + xs.length then xs.getD (j - i) d else atC d t j := by
  unfold atC
  rw [Tr.get_fill]
  by_cases e : i ≤ j ∧ j < i + xs.length
  · rw [if_pos e, if_pos e, List.getD_eq_getElem?_getD]
    cases h : xs[j - i]? with
    | none => rfl
    | some x => rfl
  · rw [if_neg e, if_neg e]

/-- Cells from o on, written. -/
def wrs (h : CH) (k o : Nat) (xs : List CV) : Option CH := match h.t.get k with
  | some (.cells n d t T) => match Nat.ble (o + xs.length) n with
    | true => some (h.wr k (.cells n d (t.fill o xs) T))
    | false => none
  | _ => none

theorem VRs.of_get {r : List RB} : ∀ {cs : List CV} {vs : List Value}, vs.length = cs.length → (∀ (i : Nat) (c : CV) (v : Value), cs[i]? = some c → vs[i]? = some v → VR r c v) → VRs r cs vs
  | [], vs, h, _ => by obtain rfl : vs = [] := by simpa using h
                       exact VRs.nil
  | c :: cs, [], h, _ => by simp at h
  | c :: cs, v :: vs, h, k => VRs.cons (k 0 c v rfl rfl) (VRs.of_get (by simpa using h) fun i c v h1 h2 => k (i + 1) c v (by simpa using h1) (by simpa using h2))

theorem Rl.wrs {P : Program} {H0 : Heap} {r : List RB} {h h' : CH} {H : Heap} (R : Rl P H0 r h H) {k o : Nat} {xs : List CV} {vs : List Value} {b : RB} (hw : wrs h k o xs = some h') (hb : r[k]? = some b) (hv : VRs r xs vs) :
    ∃ c T, H b.blk = some (.cells c T (0, 0)) ∧ b.base + o + vs.length ≤ c.size ∧ ∀ H', H' b.blk = some (.cells (putRow c (b.base + o) vs) T (0, 0)) → (∀ j, j ≠ b.blk → H' j = H j) → Rl P H0 r h' H' ∧ Ex r h H r h' H' := by
  unfold Ev.wrs at hw
  split at hw
  · rename_i n d t T hk
    split at hw
    · rename_i hle
      cases hw
      have hle' : o + xs.length ≤ n := Nat.le_of_ble_eq_true hle
      obtain ⟨b', c, hb', h1, h2, h3⟩ := R.cells hk
      rw [hb] at hb'; cases hb'
      have hl := hv.len
      refine ⟨c, T, h1, by omega, fun H' e1 e2 => ?_⟩
      refine R.write hb (live_of hk (by simp)) e2 ⟨_, e1, ?_, fun i hi => ?_⟩
      · rw [putRow_size]; exact h2
      · rw [putRow_get _ _ _ _ (by omega), atC_fill]
        by_cases e : o ≤ i ∧ i < o + xs.length
        · rw [if_pos e, if_pos (by omega)]
          have hx : i - o < xs.length := by omega
          obtain ⟨v, hv1, hv2⟩ := hv.get (i - o) _ (List.getElem?_eq_getElem hx)
          refine ⟨v, ?_, ?_⟩
          · rw [show b.base + i - (b.base + o) = i - o by omega]; exact hv1
          · rw [List.getD_eq_getElem?_getD, List.getElem?_eq_getElem hx]; exact hv2
        · rw [if_neg e, if_neg (by omega)]
          exact h3 i hi
    · cases hw
  · cases hw

/-- Rows of cells. -/
theorem BR.row {P : Program} {r : List RB} {m : Nat} {H : Heap} {xs : List CV} {vs rest : List Value} {T : TypeId} {ext : Nat} {d : CV} (hv : VRs r xs vs) (hr : rest.length = ext * szT P T) :
    BR P r ⟨m, 0, ext⟩ (H.upd m (.cells ⟨vs ++ rest⟩ T (0, 0))) (.cells xs.length d (Tr.fill .e 0 xs) T) := by
  have hl := hv.len
  refine ⟨_, upd_eq, ?_, fun i hi => ?_⟩
  · simp only [List.size_toArray, List.length_append, hr]; omega
  · obtain ⟨v, h1, h2⟩ := hv.get i _ (List.getElem?_eq_getElem hi)
    refine ⟨v, ?_, ?_⟩
    · simp only [List.getElem?_toArray, Nat.zero_add]
      rw [List.getElem?_append_left (by omega)]; exact h1
    · rw [atC_fill, if_pos (by omega), List.getD_eq_getElem?_getD, Nat.sub_zero, List.getElem?_eq_getElem hi]; exact h2

/-- What was made and is not needed any more. -/
theorem Rl.drop {P : Program} {H0 : Heap} {r r' : List RB} {h h' : CH} {H H' : Heap} (R : Rl P H0 r h H) (R' : Rl P H0 r' h' H') (hs : ∀ (k : Nat) (b : RB), r[k]? = some b → live h k = true → H' b.blk = H b.blk) : Rl P H0 r h H' ∧ Ex r h H r h H' :=
  ⟨⟨R.len, R.top, fun k b o hb ho => by
    have hB := R.blk k b o hb ho
    exact BR.same' (fun hn => hs k b hb (live_of ho hn)) hB, R.inj, R.new, R'.fr, R.good⟩,
   ⟨Pre.refl _, rfl, fun _ h => h, fun k b hb hg _ _ => ⟨hs k b hb hg, hg⟩⟩⟩
/-- The mark set anew. -/
def CH.mark (h : CH) : CH := ⟨h.n, h.t, h.n, []⟩
def CH.back (h' h : CH) : CH := ⟨h'.n, h'.t, h.m, addAll h.m h'.d h.d⟩
theorem Rl.re {P : Program} {H0 : Heap} {r : List RB} {h : CH} {H : Heap} (R : Rl P H0 r h H) (m : Nat) (d : List Nat) : Rl P H0 r ⟨h.n, h.t, m, d⟩ H := ⟨R.len, R.top, R.blk, R.inj, R.new, R.fr, R.good⟩
theorem Ex.back {P : Program} {H0 : Heap} {r r' : List RB} {h h' : CH} {H H' : Heap} (R : Rl P H0 r h H) (E : Ex r h.mark H r' h' H') : Ex r h H r' (h'.back h) H' :=
  ⟨E.pre, rfl, fun _ hk => addAll.old _ hk, fun k b hb hl hm hd => by
    have hk : k < h.n := by rw [← R.len]; exact (List.getElem?_eq_some_iff.1 hb).1
    exact E.same k b hb hl hk fun h => hd (addAll.new hm _ h)⟩
end Go.Ev
