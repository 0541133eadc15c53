/-
  The laws of one operation's reading; a region in any order.
-/
import Derived.Test.YthojhkhiamomnaaGreatSh7
set_option linter.unusedSectionVars false
set_option linter.unusedSimpArgs false
set_option linter.unusedVariables false
namespace Go.Sh

theorem ev_congr {o : Oper} {ρ ρ' : Env} (h : ∀ t ∈ opTmps o, ρ t = ρ' t) : ∀ x ∈ o.op.operands, ev ρ x = ev ρ' x := by
  intro x hx
  cases x with
  | tmp t => exact h t (List.mem_filterMap.2 ⟨.tmp t, by simpa using hx, rfl⟩)
  | const v => rfl
  | global g => rfl
  | func f => rfl

theorem StCell.mono {H : Heap} {a : Addr} {v : Value} {K K' : Heap → Prop} (hk : ∀ H, K H → K' H) (h : StCell H a v K) : StCell H a v K' := by
  unfold StCell at *
  split at h
  · obtain ⟨c, T, lo, hi, h1, h2, h3, h4⟩ := h
    exact ⟨c, T, lo, hi, h1, h2, h3, hk _ h4⟩
  · exact h.elim

theorem StCells.mono {a : Addr} {K K' : Heap → Prop} (hk : ∀ H, K H → K' H) : ∀ (vs : List Value) (i : Nat) (H : Heap), StCells a i vs H K → StCells a i vs H K' := by
  intro vs
  induction vs with
  | nil => exact fun i H h => hk _ h
  | cons v vs ih => exact fun i H h => StCell.mono (fun H h => ih _ H h) h

theorem StoreW.mono {P : Program} {t : TypeId} {a v : Value} {H : Heap} {K K' : Value → Heap → Prop} (hk : ∀ v H, K v H → K' v H) (h : StoreW P t a v H K) : StoreW P t a v H K' := by
  unfold StoreW at *
  split at h
  · obtain ⟨s, hs, h⟩ := sizeK.elim h
    simp only [sizeK, hs]
    split at h
    · rename_i hl; exact StCells.mono (fun H h => hk _ _ h) _ _ _ h
    · exact h.elim
  · exact h.elim

theorem NextW.mono {P : Program} {K K' : Value → Heap → Prop} (hk : ∀ v H, K v H → K' v H) (n : Next) (H : Heap) (h : NextW P K n H) : NextW P K' n H := by
  cases n <;> first | exact hk _ _ h | exact FnW.mono h hk | exact RndW.mono h hk | exact h.elim

theorem CallF.mono {P : Program} {f : FuncId} {t : TypeId} {args : Array Value} {H : Heap} {K K' : Value → Heap → Prop} (hk : ∀ v H, K v H → K' v H) (h : CallF P f t args H K) : CallF P f t args H K' := by
  unfold CallF at h ⊢
  split at h
  · exact SemW.mono _ _ _ _ (fun n H h => NextW.mono (fun _ _ h => ofTy.mono hk h) n H h) h
  · exact FnW.mono h (fun _ _ h => ofTy.mono hk h)
theorem MkFnW.mono {P : Program} {o : Oper} {ρ : Env} {H : Heap} {K K' : Value → Heap → Prop} (hk : ∀ v H, K v H → K' v H) (h : MkFnW P o ρ H K) : MkFnW P o ρ H K' := by
  unfold MkFnW at h ⊢
  split at h
  · exact hk _ _ h
  · exact hk _ _ h
  · exact SemW.mono _ _ _ _ (fun n H h => NextW.mono hk n H h) h


theorem OpW.mono {P : Program} {o : Oper} {ρ : Env} {H : Heap} {K K' : Value → Heap → Prop} (hk : ∀ v H, K v H → K' v H) (h : OpW P o ρ H K) : OpW P o ρ H K' := by
  by_cases h0 : rank P o = 0
  · obtain ⟨ok, v, hp⟩ := OpW.pure0 h0 ρ
    obtain ⟨hok, hv⟩ := (hp _ _).1 h
    exact (hp _ _).2 ⟨hok, hk _ _ hv⟩
  by_cases h1 : rank P o = 1
  · obtain ⟨blk, hp⟩ := OpW.read1 h1 ρ
    obtain ⟨_, v, hv⟩ := hp _ _ h
    exact (hv _ _ rfl).2 (hk _ _ ((hv _ _ rfl).1 h))
  by_cases h2 : rank P o = 2
  · obtain ⟨ok, val, obj, hp⟩ := OpW.new2 h2 ρ
    obtain ⟨hok, hv⟩ := (hp _ _).1 h
    exact (hp _ _).2 ⟨hok, fun n hn => hk _ _ (hv n hn)⟩
  unfold rank at h0 h1 h2
  unfold OpW at h ⊢
  cases ho : o.op <;> rw [ho] at h0 h1 h2 h <;> simp only at h0 h1 h2 h ⊢ <;> first
    | exact absurd trivial h0
    | exact absurd trivial h1
    | exact absurd trivial h2
    | exact (h0 rfl).elim
    | exact (h1 rfl).elim
    | exact (h2 rfl).elim
    | exact SemW.mono _ _ _ _ (fun n H h => NextW.mono hk n H h) h
    | exact MkFnW.mono hk h
    | exact NxW.mono hk h
    | exact EnW.mono hk h
    | exact MeW.mono hk h
    | exact SemW.mono _ _ _ _ hk h
    | exact SemW.mono _ _ _ _ (fun _ _ h => ofTy.mono hk h) h
    | exact StoreW.mono hk h
    | skip
  case load t a =>
    obtain ⟨v, hv, hl⟩ := LoadW.read h
    exact hl H _ (fun _ _ _ _ _ h => h) (hk _ _ hv)
  case makeMap t r =>
    cases r with
    | none => exact (h2 rfl).elim
    | some x => exact SemW.mono _ _ _ _ (fun n H h => NextW.mono hk n H h) h
  case convert s d x =>
    unfold ConvW at h ⊢
    cases hs : isIntT P s with
    | true => rw [hs] at h0; exact (h0 rfl).elim
    | false => rw [hs] at h; exact SemW.mono _ _ _ _ (fun _ _ h => ofTy.mono hk h) h
  case call c =>
    unfold CallW at h ⊢
    cases hc : c.callee with
    | value f =>
      rw [hc] at h
      cases f <;> simp only at h ⊢ <;> first | exact CallF.mono hk h | exact SemW.mono _ _ _ _ (fun n H h => NextW.mono hk n H h) h | skip
      split at h
      · exact YieldW.mono (fun _ _ h => ofTy.mono hk h) h
      · exact FnW.mono h (fun _ _ h => ofTy.mono hk h)
      · exact FnW.mono h (fun _ _ h => ofTy.mono hk h)
      · exact SemW.mono _ _ _ _ (fun n H h => NextW.mono hk n H h) h
    | invoke r m => rw [hc] at h; exact SemW.mono _ _ _ _ (fun n H h => NextW.mono hk n H h) h
    | builtin b =>
      rw [hc] at h0 h
      cases b <;> first | exact (h0 rfl).elim | (cases hm : isMapT P c.argTypes.toList[0]? <;> simp only [hm] at h0 h ⊢ <;> first | exact (h0 rfl).elim | exact (h0 trivial).elim | exact SemW.mono _ _ _ _ (fun _ _ h => ofTy.mono hk h) h | exact SemW.mono _ _ _ _ (fun n H h => NextW.mono hk n H h) h) | exact SemW.mono _ _ _ _ hk h | exact SemW.mono _ _ _ _ (fun _ _ h => ofTy.mono hk h) h | exact SemW.mono _ _ _ _ (fun n H h => NextW.mono hk n H h) h

theorem map_congr_ev {ρ ρ' : Env} {l : List Operand} (h : ∀ x ∈ l, ev ρ x = ev ρ' x) : l.map (ev ρ) = l.map (ev ρ') := List.map_congr_left h
theorem opt_congr_ev {ρ ρ' : Env} {l : Option Operand} (h : ∀ x, l = some x → ev ρ x = ev ρ' x) : l.map (ev ρ) = l.map (ev ρ') := by
  cases l with
  | none => rfl
  | some x => simp [h x rfl]

theorem OpW.congr {P : Program} {o : Oper} {ρ ρ' : Env} {H : Heap} {K : Value → Heap → Prop} (hc : ∀ t ∈ opTmps o, ρ t = ρ' t) (h : OpW P o ρ H K) : OpW P o ρ' H K := by
  have he := ev_congr hc
  unfold OpW at h ⊢
  cases ho : o.op
  all_goals
    rw [ho] at h he
    simp only at h ⊢
  case move x => rw [← he x (by simp [Op.operands])]; exact h
  case assign x => rw [← he x (by simp [Op.operands])]; exact h
  case pick c a b => rw [← he c (by simp [Op.operands]), ← he a (by simp [Op.operands]), ← he b (by simp [Op.operands])]; exact h
  case alloc t => exact h
  case box t v => rw [← he v (by simp [Op.operands])]; exact h
  case build t ps =>
    have : (ps.toList.map fun p => (p.1, ev ρ' p.2)) = ps.toList.map fun p => (p.1, ev ρ p.2) :=
      List.map_congr_left fun p hp => by rw [he p.2 (by simp [Op.operands]; exact ⟨p.1, by simpa using hp⟩)]
    rw [this]; exact h
  case buildSlice t n ps =>
    have : (ps.toList.map fun p => (p.1, ev ρ' p.2)) = ps.toList.map fun p => (p.1, ev ρ p.2) :=
      List.map_congr_left fun p hp => by rw [he p.2 (by simp [Op.operands]; exact ⟨p.1, by simpa using hp⟩)]
    rw [this]; exact h
  case load t a => rw [← he a (by simp [Op.operands])]; exact h
  case store t a v => rw [← he a (by simp [Op.operands]), ← he v (by simp [Op.operands])]; exact h
  case nilCheck x => rw [← he x (by simp [Op.operands])]; exact h
  case binOp op t x y u => rw [← he x (by simp [Op.operands]), ← he y (by simp [Op.operands])]; exact h
  case unOp op t x => rw [← he x (by simp [Op.operands])]; exact h
  case convert s d x => rw [← he x (by simp [Op.operands])]; exact h
  case makeSlice t l c => rw [← he l (by simp [Op.operands]), ← he c (by simp [Op.operands])]; exact h
  case slice t x lo hi mx =>
    rw [← he x (by simp [Op.operands]), ← opt_congr_ev (fun y hy => he y (by simp [Op.operands, hy])), ← opt_congr_ev (fun y hy => he y (by simp [Op.operands, hy])), ← opt_congr_ev (fun y hy => he y (by simp [Op.operands, hy]))]
    exact h
  case fieldAddr s x f => rw [← he x (by simp [Op.operands])]; exact h
  case field t x f => rw [← he x (by simp [Op.operands])]; exact h
  case indexAddr t x i => rw [← he x (by simp [Op.operands]), ← he i (by simp [Op.operands])]; exact h
  case index t x i => rw [← he x (by simp [Op.operands]), ← he i (by simp [Op.operands])]; exact h
  case extract t i => rw [← he t (by simp [Op.operands])]; exact h
  case lookup t x i ok => rw [← he x (by simp [Op.operands]), ← he i (by simp [Op.operands])]; exact h
  case next it s => rw [← he it (by simp [Op.operands])]; exact h
  case mapEntry t m k => rw [← he m (by simp [Op.operands]), ← he k (by simp [Op.operands])]; exact h
  case entry it => rw [← he it (by simp [Op.operands])]; exact h
  case sliceToArrayPointer t x => rw [← he x (by simp [Op.operands])]; exact h
  case makeMap t r =>
    cases r with
    | none => exact h
    | some x =>
      have hx : execOp (ev ρ') o = execOp (ev ρ) o := execOp_congr o (by simp [ho]) fun x hx => (he x (by rw [ho] at hx; exact hx)).symm
      rw [hx]; exact h
  case call c =>
    have ha : c.args.toList.map (ev ρ') = c.args.toList.map (ev ρ) := List.map_congr_left fun x hx => (he x (by simp [Op.operands, Call.operands]; exact .inr (by simpa using hx))).symm
    have hr : (resolve (ev ρ') c o.type) = resolve (ev ρ) c o.type := resolve_congr c o.type fun x hx => (he x (by simpa [Op.operands] using hx)).symm
    unfold CallW at h ⊢
    rw [ha, hr]
    cases hcc : c.callee with
    | value f =>
      cases f with
      | tmp t =>
        simp only [hcc] at h ⊢
        rw [← hc t (by simp [opTmps, ho, Op.operands, Call.operands, hcc])]
        exact h
      | _ => simp only [hcc] at h ⊢; exact h
    | builtin b => simp only [hcc] at h ⊢; cases b <;> exact h
    | invoke r m => simp only [hcc] at h ⊢; exact h
  case makeFunc fn first captured =>
    have hx : execOp (ev ρ') o = execOp (ev ρ) o := execOp_congr o (by simp [ho]) fun x hx => (he x (by rw [ho] at hx; exact hx)).symm
    unfold MkFnW at h ⊢
    split at h
    · rename_i f cap ho2
      rw [ho] at ho2
      cases ho2
      have hc : captured.toList.map (ev ρ') = captured.toList.map (ev ρ) := List.map_congr_left fun x hx => (he x (by simp [Op.operands]; simpa using hx)).symm
      rw [hc]; exact h
    · rename_i f d ds cap ho2
      rw [ho] at ho2
      cases ho2
      have hc : cap.map (ev ρ') = cap.map (ev ρ) := List.map_congr_left fun x hx => (he x (by simp [Op.operands]; exact .inr (.inr (by simpa using hx)))).symm
      have hd : (d :: ds).map (ev ρ') = (d :: ds).map (ev ρ) := List.map_congr_left fun x hx => (he x (by simp only [Op.operands]; simp at hx ⊢; rcases hx with h | h; exact .inl h; exact .inr (.inl h))).symm
      rw [hc, hd]; exact h
    · rw [hx]; exact h
  all_goals
    have hx : execOp (ev ρ') o = execOp (ev ρ) o := execOp_congr o (by simp [ho]) fun x hx => (he x (by rw [ho] at hx; exact hx)).symm
    rw [hx]; exact h

theorem niceOp (P : Program) : Nice (OpW P) where
  mono := fun _ _ _ _ _ hk h => OpW.mono hk h
  congr := fun _ _ _ _ _ hc h => OpW.congr hc h

theorem upd_comm (H : Heap) {n m : Nat} (o p : Obj) (h : n ≠ m) : (H.upd n o).upd m p = (H.upd m p).upd n o := by
  refine Heap.ext fun b => ?_
  simp only [Heap.upd]
  by_cases h1 : b = m
  · subst h1; rw [if_pos rfl, if_neg (fun e => h e.symm), if_pos rfl]
  · rw [if_neg h1, if_neg h1]

theorem upd_ne {H : Heap} {n b : Nat} {o : Obj} (h : b ≠ n) : (H.upd n o) b = H b := by simp [Heap.upd, h]
theorem upd_eq {H : Heap} {n : Nat} {o : Obj} : (H.upd n o) n = some o := by simp [Heap.upd]

theorem list_bound : ∀ l : List Nat, ∃ M, ∀ b ∈ l, b < M
  | [] => ⟨0, by simp⟩
  | b :: l => by
    obtain ⟨M, h⟩ := list_bound l
    refine ⟨max M (b + 1), fun c hc => ?_⟩
    rcases List.mem_cons.1 hc with rfl | hc
    · omega
    · have := h c hc; omega

theorem Heap.free (H : Heap) (l : List Nat) : ∃ n, n ∉ l ∧ H n = none := by
  obtain ⟨N, h⟩ := H.fin
  obtain ⟨M, hM⟩ := list_bound l
  exact ⟨max N M, fun hc => by have := hM _ hc; omega, h _ (by omega)⟩

theorem Heap.alter_none {H : Heap} {n b : Nat} {f : Obj → Obj} : (H.alter n f) b = none ↔ H b = none := by
  simp only [Heap.alter]
  split
  · cases H b <;> simp
  · rfl
theorem Heap.alter_upd {H : Heap} {n m : Nat} {f : Obj → Obj} {o : Obj} (h : n ≠ m) : (H.upd n o).alter m f = (H.alter m f).upd n o := by
  refine Heap.ext fun b => ?_
  simp only [Heap.alter, Heap.upd]
  by_cases h1 : b = m
  · subst h1; rw [if_pos rfl, if_neg (fun e => h e.symm), if_pos rfl, if_neg (fun e => h e.symm)]
  · rw [if_neg h1, if_neg h1]
theorem Heap.cell_upd {H : Heap} {n : Nat} {o : Obj} {a : Addr} (h : a.block ≠ n) : (H.upd n o).cell a = H.cell a := by
  simp only [Heap.cell, upd_ne h]
theorem Heap.frozen_upd {H : Heap} {n : Nat} {o : Obj} {a : Addr} (h : a.block ≠ n) : (H.upd n o).frozen a = H.frozen a := by
  simp only [Heap.frozen, upd_ne h]
theorem Heap.shape_upd {H : Heap} {n : Nat} {o : Obj} {r : Nat} (h : r ≠ n) : (H.upd n o).shape r = H.shape r := by
  simp only [Heap.shape, upd_ne h]
theorem Heap.cell_some {H : Heap} {a : Addr} {v : Value} (h : H.cell a = some v) : H a.block ≠ none := by
  intro e
  simp only [Heap.cell, e] at h
  cases h

/-- A block that is made ahead of memory operations may as well be made behind them. -/
theorem SemW.later {P : Program} {α : Type} (obj : Obj) (s : Sem α) : ∀ (H : Heap) (K : Nat → α → Heap → Prop), (∀ n, H n = none → SemW P s (H.upd n obj) (K n)) →
    SemW P s H fun x H1 => ∀ n, H1 n = none → K n x (H1.upd n obj) := by
  induction s with
  | pure a => exact fun H K h => h
  | load m a k ih =>
    intro H K h
    obtain ⟨n0, hn0, hf⟩ := H.free [a.block]
    obtain ⟨v, hv, _⟩ := h n0 hf
    rw [Heap.cell_upd (fun e => hn0 (by simp [e]))] at hv
    refine ⟨v, hv, ih v H K fun n hn => ?_⟩
    obtain ⟨v', hv', hk⟩ := h n hn
    rw [Heap.cell_upd (fun e => Heap.cell_some hv (by rw [e]; exact hn))] at hv'
    rw [hv] at hv'; cases hv'
    exact hk
  | store m a v k ih =>
    intro H K h
    obtain ⟨n0, hn0, hf⟩ := H.free [a.block]
    obtain ⟨h1, ⟨u, hu⟩, h3, _⟩ := h n0 hf
    have hne : a.block ≠ n0 := fun e => hn0 (by simp [e])
    rw [Heap.cell_upd hne] at hu
    rw [Heap.frozen_upd hne] at h3
    refine ⟨h1, ⟨u, hu⟩, h3, ih _ K fun n hn => ?_⟩
    have hn' : H n = none := Heap.alter_none.1 hn
    have hk := (h n hn').2.2.2
    have hne' : n ≠ a.block := fun e => Heap.cell_some hu (by rw [← e]; exact hn')
    unfold Heap.set at hk ⊢
    rw [Heap.alter_upd hne'] at hk
    exact hk
  | new o k ih =>
    intro H K h m hm
    refine ih m _ K fun n hn => ?_
    have hne : n ≠ m := fun e => by subst e; rw [upd_eq] at hn; cases hn
    rw [upd_ne hne] at hn
    have := h n hn m (by rw [upd_ne (fun e => hne e.symm)]; exact hm)
    rw [upd_comm H obj o hne] at this
    exact this
  | shape r k ih =>
    intro H K h
    obtain ⟨n0, hn0, hf⟩ := H.free [r]
    have hne : r ≠ n0 := fun e => hn0 (by simp [e])
    obtain ⟨⟨o, ho⟩, _⟩ := h n0 hf
    rw [upd_ne hne] at ho
    refine ⟨⟨o, ho⟩, ih _ H K fun n hn => ?_⟩
    have hk := (h n hn).2
    rw [Heap.shape_upd (fun e => by subst e; rw [ho] at hn; cases hn)] at hk
    exact hk
  | freeze a n k ih =>
    intro H K h
    obtain ⟨n0, hn0, hf⟩ := H.free [a.block]
    have hne : a.block ≠ n0 := fun e => hn0 (by simp [e])
    obtain ⟨⟨o, ho⟩, _⟩ := h n0 hf
    rw [upd_ne hne] at ho
    refine ⟨⟨o, ho⟩, ih _ K fun m hm => ?_⟩
    by_cases hn : n = 0
    · subst hn
      have := (h m (by simpa [Heap.frz] using hm)).2
      simpa [Heap.frz] using this
    · have hm' : H m = none := by
        simp only [Heap.frz, if_neg hn] at hm
        exact Heap.alter_none.1 hm
      have hk := (h m hm').2
      simp only [Heap.frz, if_neg hn] at hk ⊢
      rw [Heap.alter_upd (fun e => by subst e; rw [ho] at hm'; cases hm')] at hk
      exact hk
  | frozen a k ih =>
    intro H K h
    obtain ⟨n0, hn0, hf⟩ := H.free [a.block]
    have hne : a.block ≠ n0 := fun e => hn0 (by simp [e])
    obtain ⟨⟨o, ho⟩, _⟩ := h n0 hf
    rw [upd_ne hne] at ho
    refine ⟨⟨o, ho⟩, ih _ H K fun n hn => ?_⟩
    have hk := (h n hn).2
    rw [Heap.frozen_upd (fun e => by subst e; rw [ho] at hn; cases hn)] at hk
    exact hk
  | getObj r k ih =>
    intro H K h
    obtain ⟨n0, hn0, hf⟩ := H.free [r]
    have hne : r ≠ n0 := fun e => hn0 (by simp [e])
    obtain ⟨o, ho, hc, _⟩ := h n0 hf
    rw [upd_ne hne] at ho
    refine ⟨o, ho, hc, ih o H K fun n hn => ?_⟩
    obtain ⟨o', ho', _, hk⟩ := h n hn
    rw [upd_ne (fun e => by subst e; rw [ho] at hn; cases hn)] at ho'
    rw [ho] at ho'; cases ho'
    exact hk
  | setObj r o k ih =>
    intro H K h
    obtain ⟨n0, hn0, hf⟩ := H.free [r]
    have hne : r ≠ n0 := fun e => hn0 (by simp [e])
    obtain ⟨⟨o0, ho, hc, hd⟩, _⟩ := h n0 hf
    rw [upd_ne hne] at ho
    refine ⟨⟨o0, ho, hc, hd⟩, ih _ K fun n hn => ?_⟩
    have hnr : n ≠ r := fun e => by subst e; rw [upd_eq] at hn; cases hn
    rw [upd_ne hnr] at hn
    have hk := (h n hn).2
    rw [upd_comm H _ _ hnr] at hk
    exact hk
  | choose q k ih => exact fun H K h => ⟨fun hq => ih _ H K fun n hn => (h n hn).1 hq, fun hq t => ih _ H K fun n hn => (h n hn).2 hq t⟩
  | sys c k ih => intro H K h; obtain ⟨n0, _, hf⟩ := H.free []; exact (h n0 hf).elim
  | program k ih => exact fun H K h => ih _ H K h
  | mark m k ih => exact fun H K h => ih H K h
  | halt h => intro H K h; obtain ⟨n0, _, hf⟩ := H.free []; exact (h n0 hf).elim

/-- A run that reads, and does no more. -/
def RoW (W : Heap → (Value → Heap → Prop) → Prop) : Prop := ∃ R : Heap → Value → Prop, ∀ H K, W H K ↔ ∃ v, R H v ∧ K v H
theorem PureW.ro {W : Heap → (Value → Heap → Prop) → Prop} (h : PureW W) : RoW W := by
  obtain ⟨ok, v, h⟩ := h
  exact ⟨fun _ u => ok ∧ u = v, fun H K => (h H K).trans ⟨fun ⟨h1, h2⟩ => ⟨v, ⟨h1, rfl⟩, h2⟩, fun ⟨u, ⟨h1, e⟩, h2⟩ => ⟨h1, e ▸ h2⟩⟩⟩
theorem ReadW.ro {W : Heap → (Value → Heap → Prop) → Prop} (h : ReadW W) : RoW W := by
  obtain ⟨blk, h⟩ := h
  refine ⟨fun H v => W H fun v' H' => v' = v ∧ H' = H, fun H K => ⟨fun hw => ?_, fun ⟨v, hv, hk⟩ => ?_⟩⟩
  · obtain ⟨_, v, hv⟩ := h H K hw
    exact ⟨v, (hv H _ rfl).2 ⟨rfl, rfl⟩, (hv H K rfl).1 hw⟩
  · obtain ⟨_, u, hu⟩ := h H _ hv
    obtain ⟨e, _⟩ := (hu H _ rfl).1 hv
    exact (hu H K rfl).2 (e ▸ hk)

def isRO (P : Program) {α : Type} : Sem α → Prop
  | .pure _ => True
  | .load _ _ k => ∀ v, isRO P (k v)
  | .shape _ k => ∀ x, isRO P (k x)
  | .frozen _ k => ∀ x, isRO P (k x)
  | .program k => isRO P (k P)
  | .mark _ k => isRO P k
  | .halt _ => True
  | _ => False
theorem isRO.out {P : Program} {α : Type} (s : Sem α) : ∀ (_ : isRO P s) (H : Heap) (K : α → Heap → Prop), SemW P s H K → ∃ a, SemW P s H (fun a' H' => a' = a ∧ H' = H) ∧ K a H := by
  induction s with
  | pure a => exact fun _ H K h => ⟨a, ⟨rfl, rfl⟩, h⟩
  | load m a k ih => intro hr H K ⟨v, hv, h⟩; obtain ⟨x, h1, h2⟩ := ih v (hr v) H K h; exact ⟨x, ⟨v, hv, h1⟩, h2⟩
  | shape r k ih => intro hr H K ⟨h0, h⟩; obtain ⟨x, h1, h2⟩ := ih _ (hr _) H K h; exact ⟨x, ⟨h0, h1⟩, h2⟩
  | frozen a k ih => intro hr H K ⟨h0, h⟩; obtain ⟨x, h1, h2⟩ := ih _ (hr _) H K h; exact ⟨x, ⟨h0, h1⟩, h2⟩
  | program k ih => intro hr H K h; exact ih P hr H K h
  | mark m k ih => intro hr H K h; exact ih hr H K h
  | halt h => intro _ H K h; exact h.elim
  | store m a v k ih => intro hr; exact hr.elim
  | new o k ih => intro hr; exact hr.elim
  | freeze a n k ih => intro hr; exact hr.elim
  | getObj r k ih => intro hr; exact hr.elim
  | setObj r o k ih => intro hr; exact hr.elim
  | choose q k ih => intro hr; exact hr.elim
  | sys c k ih => intro hr; exact hr.elim
theorem isRO.bind {P : Program} {α β : Type} (s : Sem α) (f : α → Sem β) : ∀ (_ : isRO P s) (_ : ∀ a, isRO P (f a)), isRO P (s >>= f) := by
  induction s with
  | pure a => exact fun _ hf => hf a
  | load m a k ih => exact fun hr hf v => ih v (hr v) hf
  | shape r k ih => exact fun hr hf v => ih v (hr v) hf
  | frozen a k ih => exact fun hr hf v => ih v (hr v) hf
  | program k ih => exact fun hr hf => ih P hr hf
  | mark m k ih => exact fun hr hf => ih hr hf
  | halt h => exact fun _ _ => trivial
  | store m a v k ih => intro hr; exact hr.elim
  | new o k ih => intro hr; exact hr.elim
  | freeze a n k ih => intro hr; exact hr.elim
  | getObj r k ih => intro hr; exact hr.elim
  | setObj r o k ih => intro hr; exact hr.elim
  | choose q k ih => intro hr; exact hr.elim
  | sys c k ih => intro hr; exact hr.elim
theorem ro_underlying {P : Program} {α : Type} {t : TypeId} {d : TypeDesc} (h : P.underlying t = some d) {f : TypeDesc → Sem α} (hf : isRO P (f d)) : isRO P (underlying t >>= f) := by
  have key : isRO P (underlying t) ∧ ∀ g : TypeDesc → Sem α, isRO P (g d) → isRO P (underlying t >>= g) := by
    unfold underlying
    constructor
    · show isRO P (match P.underlying t with | some d => pure d | none => stuck "no such type")
      rw [h]; trivial
    · intro g hg
      show isRO P ((match P.underlying t with | some d => pure d | none => stuck "no such type") >>= g)
      rw [h]; exact hg
  exact key.2 f hf
theorem ro_cells {P : Program} {a : Addr} : ∀ (n i : Nat) (acc : Array Value), isRO P (loadCellsFrom a i n acc)
  | 0, _, _ => trivial
  | n + 1, i, acc => isRO.bind _ _ (fun _ => trivial) fun _ => ro_cells n _ _
theorem ro_push {P : Program} : ∀ (l : List Value) (s : ByteArray), isRO P (forIn l s fun c r => (match c with
        | .int .u8 n => pure (ForInStep.yield (r.push (UInt8.ofNat n.toNat)))
        | _ => do
          stuck "bytesToString: byte expected"
          pure (ForInStep.yield r) : Sem (ForInStep ByteArray)))
  | [], s => trivial
  | c :: l, s => by
    rw [List.forIn_cons]
    refine isRO.bind _ _ ?_ fun r => ?_
    · split
      · trivial
      · exact isRO.bind _ _ trivial fun _ => trivial
    · cases r with
      | done s => trivial
      | yield s => exact ro_push l s
theorem ro_bts {P : Program} {s d e : TypeId} (hs : P.underlying s = some (.slice e)) (hd : P.underlying d = some .string) (he : P.underlying e = some (.int .u8)) (a : Option Addr) (n c : Nat) : isRO P (convert s d (.slice a n c)) := by
  unfold convert
  refine ro_underlying hs (ro_underlying hd ?_)
  show isRO P (underlying e >>= _)
  refine ro_underlying he ?_
  show isRO P (Conv.bytesToString (.slice a n c))
  unfold Conv.bytesToString
  cases a with
  | none => trivial
  | some a =>
    show isRO P (loadCells a n >>= _)
    refine isRO.bind _ _ (ro_cells _ _ _) fun cells => ?_
    simp only [← Array.forIn_toList]
    exact isRO.bind _ _ (ro_push _ _) fun _ => trivial

/-- What any semantics of one operation must have, by its rank: 0 asks memory for nothing, 1 reads, 2 makes a block. -/
structure Ranked (S : Oper → Env → Heap → (Value → Heap → Prop) → Prop) (rk : Oper → Nat) : Prop extends Nice S where
  pure0 : ∀ o ρ, rk o = 0 → PureW (S o ρ)
  read1 : ∀ o ρ, rk o = 1 → ReadW (S o ρ)
  mem3 : ∀ o ρ obj H (K : Nat → Value → Heap → Prop), rk o = 3 → (∀ n, H n = none → S o ρ (H.upd n obj) (K n)) → S o ρ H fun u H1 => ∀ n, H1 n = none → K n u (H1.upd n obj)
  ro5 : ∀ o ρ, rk o = 5 → RoW (S o ρ)
  new2 : ∀ o ρ, rk o = 2 → ∃ (ok : Prop) (val : Nat → Value) (obj : Obj), ∀ H K, S o ρ H K ↔ (ok ∧ ∀ n, H n = none → K (val n) (H.upd n obj))

theorem StCell.later {obj : Obj} {a : Addr} {v : Value} {H : Heap} {K : Nat → Heap → Prop} (h : ∀ n, H n = none → StCell (H.upd n obj) a v (K n)) : StCell H a v fun H1 => ∀ n, H1 n = none → K n (H1.upd n obj) := by
  obtain ⟨n0, hn0, hf⟩ := H.free [a.block]
  have hne : a.block ≠ n0 := fun e => hn0 (by simp [e])
  unfold StCell at h ⊢
  have h0 := h n0 hf
  cases hp : plainC v with
  | false => rw [hp] at h0; exact h0.elim
  | true =>
    cases hs : a.spot with
    | some s => rw [hp, hs] at h0; exact h0.elim
    | none =>
      rw [hp, hs] at h0 h
      obtain ⟨c, T, lo, hi, h1, h2, h3, _⟩ := h0
      rw [upd_ne hne] at h1
      refine ⟨c, T, lo, hi, h1, h2, h3, fun n hn => ?_⟩
      have hnb : n ≠ a.block := fun e => by subst e; rw [upd_eq] at hn; cases hn
      rw [upd_ne hnb] at hn
      obtain ⟨c', T', lo', hi', h1', _, _, h4⟩ := h n hn
      rw [upd_ne (fun e => hnb e.symm), h1] at h1'
      cases h1'
      rw [upd_comm _ _ _ hnb] at h4
      exact h4

theorem StCells.later {obj : Obj} {a : Addr} : ∀ (vs : List Value) (i : Nat) (H : Heap) (K : Nat → Heap → Prop), (∀ n, H n = none → StCells a i vs (H.upd n obj) (K n)) → StCells a i vs H fun H1 => ∀ n, H1 n = none → K n (H1.upd n obj) := by
  intro vs
  induction vs with
  | nil => exact fun i H K h => h
  | cons v vs ih =>
    intro i H K h
    refine StCell.mono (fun H1 h1 => ih (i + 1) H1 K h1) (StCell.later h)

theorem StoreW.later {P : Program} {obj : Obj} {t : TypeId} {a v : Value} {H : Heap} {K : Nat → Value → Heap → Prop} (h : ∀ n, H n = none → StoreW P t a v (H.upd n obj) (K n)) :
    StoreW P t a v H fun u H1 => ∀ n, H1 n = none → K n u (H1.upd n obj) := by
  obtain ⟨n0, _, hf⟩ := H.free []
  have h0 := h n0 hf
  unfold StoreW at h h0 ⊢
  split at h0
  · rename_i a
    obtain ⟨s, hs, h0⟩ := sizeK.elim h0
    simp only [sizeK, hs] at h ⊢
    split at h0
    · rename_i hl
      rw [hl] at h
      exact StCells.later _ _ _ _ h
    · exact h0.elim
  · exact h0.elim

theorem ofTy.later {P : Program} {t : TypeId} {K : Nat → Value → Heap → Prop} {obj : Obj} {v : Value} {H1 : Heap} (h : ∀ n, H1 n = none → ofTy P t (K n) v (H1.upd n obj)) :
    ofTy P t (fun u H1 => ∀ n, H1 n = none → K n u (H1.upd n obj)) v H1 := by
  obtain ⟨n0, _, hf⟩ := H1.free []
  exact tyEx.mono (fun u ⟨he, _⟩ => ⟨he, fun n hn => by subst he; exact ofTy.elim (h n hn)⟩) (h n0 hf)

theorem OpW.mem3 {P : Program} {o : Oper} (hr : rank P o = 3) (ρ : Env) (obj : Obj) (H : Heap) (K : Nat → Value → Heap → Prop) (h : ∀ n, H n = none → OpW P o ρ (H.upd n obj) (K n)) :
    OpW P o ρ H fun u H1 => ∀ n, H1 n = none → K n u (H1.upd n obj) := by
  unfold rank at hr
  unfold OpW at h ⊢
  cases ho : o.op <;> rw [ho] at hr <;> simp only [ho] at hr h ⊢ <;> first | (cases hr; done) | skip
  case load t a => split at hr <;> cases hr
  case makeMap t r => cases r <;> cases hr
  case store => exact StoreW.later h
  case convert s d x =>
    unfold ConvW at h ⊢
    cases hs : isIntT P s with
    | true => rw [hs] at hr; cases hr
    | false => rw [hs] at h; exact SemW.mono _ _ _ _ (fun _ _ h => ofTy.later h) (SemW.later obj _ H _ h)
  case call c =>
    unfold CallW at h ⊢
    cases hc : c.callee with
    | value f => rw [hc] at hr; cases hr
    | invoke r m => rw [hc] at hr; cases hr
    | builtin b =>
      rw [hc] at hr h
      cases b <;> first | (cases hr; done) | (cases hm : isMapT P c.argTypes.toList[0]? <;> simp only [hm] at hr <;> cases hr; done) | exact SemW.mono _ _ _ _ (fun _ _ h => ofTy.later h) (SemW.later obj _ H _ h)

theorem OpW.ro5 {P : Program} {o : Oper} (hr : rank P o = 5) (ρ : Env) : RoW (OpW P o ρ) := by
  unfold rank at hr
  unfold OpW
  cases ho : o.op <;> rw [ho] at hr <;> simp only at hr ⊢ <;> first | (cases hr; done) | skip
  case load t a => split at hr <;> cases hr
  case makeMap t r => cases r <;> cases hr
  case call c =>
    cases hc : c.callee with
    | value f => rw [hc] at hr; cases hr
    | invoke r m => rw [hc] at hr; cases hr
    | builtin b => rw [hc] at hr; cases b <;> first | (cases hr; done) | (cases hm : isMapT P c.argTypes.toList[0]? <;> simp only [hm] at hr <;> cases hr)
  case convert s d x =>
    split at hr
    · cases hr
    · rename_i hi
      split at hr
      · rename_i hb
        unfold isBts at hb
        split at hb
        · rename_i e hs hd
          split at hb
          · rename_i he
            have ro : ∀ v : Value, (∃ a n c, v = .slice a n c) → RoW fun H K => ConvW P s d o.type v H K := by
              rintro v ⟨a, n, c, rfl⟩
              refine ⟨fun H v => SemW P (convert s d (.slice a n c)) H fun v' H' => v' = v ∧ H' = H ∧ tyEx P o.type (fun u => v = u), fun H K => ?_⟩
              unfold ConvW
              rw [hi]
              simp only
              constructor
              · intro h
                obtain ⟨v, h1, h2⟩ := isRO.out _ (ro_bts hs hd he a n c) _ _ h
                refine ⟨v, SemW.mono _ _ _ _ (fun v' H' hh => ⟨hh.1, hh.2, tyEx.mono (fun u hu => hu.1) h2⟩) h1, ofTy.elim h2⟩
              · rintro ⟨v, h1, h2⟩
                refine SemW.mono _ _ _ _ (fun v' H' hh => ?_) h1
                obtain ⟨rfl, rfl, h3⟩ := hh
                exact tyEx.mono (fun u hu => ⟨hu, hu ▸ h2⟩) h3
            have other : ∀ v : Value, (∀ a n c, v ≠ .slice a n c) → RoW fun H K => ConvW P s d o.type v H K := by
              intro v hv
              have hro : isRO P (convert s d v) := by
                unfold convert
                refine ro_underlying hs (ro_underlying hd ?_)
                cases v <;> first | exact absurd rfl (hv _ _ _) | exact trivial | (exact ro_underlying he trivial) | skip
              refine ⟨fun H u => SemW P (convert s d v) H fun v' H' => v' = u ∧ H' = H ∧ tyEx P o.type (fun w => u = w), fun H K => ?_⟩
              unfold ConvW
              rw [hi]
              simp only
              constructor
              · intro h
                obtain ⟨u, h1, h2⟩ := isRO.out _ hro _ _ h
                refine ⟨u, SemW.mono _ _ _ _ (fun v' H' hh => ⟨hh.1, hh.2, tyEx.mono (fun u hu => hu.1) h2⟩) h1, ofTy.elim h2⟩
              · rintro ⟨u, h1, h2⟩
                refine SemW.mono _ _ _ _ (fun v' H' hh => ?_) h1
                obtain ⟨rfl, rfl, h3⟩ := hh
                exact tyEx.mono (fun u hu => ⟨hu, hu ▸ h2⟩) h3
            cases hx : ev ρ x <;> first | exact ro _ ⟨_, _, _, rfl⟩ | exact other _ (by intro a n c h; cases h)
          · cases hb
        · cases hb
      · cases hr

theorem rankedOp (P : Program) : Ranked (OpW P) (rank P) where
  ro5 := fun _ ρ h => OpW.ro5 h ρ
  toNice := niceOp P
  pure0 := fun _ ρ h => OpW.pure0 h ρ
  read1 := fun _ ρ hr => OpW.read1 hr ρ
  new2 := fun _ ρ h => OpW.new2 h ρ
  mem3 := fun _ ρ obj H K hr h => OpW.mem3 hr ρ obj H K h

theorem Ranked.swaps {S : Oper → Env → Heap → (Value → Heap → Prop) → Prop} {rk : Oper → Nat} (R : Ranked S rk) {x y : Oper} (h : rk x = 0 ∨ (rk x ≤ 2 ∧ rk y ≤ 2) ∨ (rk x = 2 ∧ rk y = 3) ∨ ((rk x = 1 ∨ rk x = 5) ∧ (rk y ≤ 1 ∨ rk y = 5))) : Swaps S x y := by
  have hro : ∀ o ρ, (rk o ≤ 1 ∨ rk o = 5) → RoW (S o ρ) := fun o ρ ho => by
    rcases ho with h | h
    · rcases Nat.le_one_iff_eq_zero_or_eq_one.1 h with h | h
      · exact (R.pure0 o ρ h).ro
      · exact (R.read1 o ρ h).ro
    · exact R.ro5 o ρ h
  by_cases hr : (rk x ≤ 1 ∨ rk x = 5) ∧ (rk y ≤ 1 ∨ rk y = 5)
  · intro ρ H K hh
    obtain ⟨R1, h1⟩ := hro x ρ hr.1
    obtain ⟨R2, h2⟩ := hro y ρ hr.2
    obtain ⟨v, hv, hk⟩ := (h1 _ _).1 hh
    obtain ⟨u, hu, hk⟩ := (h2 _ _).1 hk
    exact (h2 _ _).2 ⟨u, hu, (h1 _ _).2 ⟨v, hv, hk⟩⟩
  replace h : rk x = 0 ∨ (rk x ≤ 2 ∧ rk y ≤ 2) ∨ (rk x = 2 ∧ rk y = 3) := by
    rcases h with h | h | h | h
    · exact .inl h
    · exact .inr (.inl h)
    · exact .inr (.inr h)
    · exact absurd ⟨by omega, h.2⟩ hr
  intro ρ H K hh
  by_cases h0 : rk x = 0
  · obtain ⟨ok, v, hp⟩ := R.pure0 x ρ h0
    obtain ⟨hok, hv⟩ := (hp _ _).1 hh
    exact R.mono _ _ _ _ _ (fun u H1 hk => (hp _ _).2 ⟨hok, hk⟩) hv
  rcases h.resolve_left h0 with ⟨h1, h2⟩ | ⟨h2, h3⟩
  case inr =>
    obtain ⟨ok1, val1, obj1, hp⟩ := R.new2 x ρ h2
    obtain ⟨hok1, hn⟩ := (hp _ _).1 hh
    exact R.mono _ _ _ _ _ (fun u H1 hk => (hp _ _).2 ⟨hok1, hk⟩) (R.mem3 y ρ obj1 H (fun n u H2 => K (val1 n) u H2) h3 hn)
  by_cases hx1 : rk x = 1
  · obtain ⟨blk, hp⟩ := R.read1 x ρ hx1
    obtain ⟨hblk, v, hv⟩ := hp _ _ hh
    have h3 := (hv H _ rfl).1 hh
    by_cases hy0 : rk y = 0
    · obtain ⟨ok, u, hq⟩ := R.pure0 y ρ hy0
      obtain ⟨hok, hu⟩ := (hq _ _).1 h3
      exact (hq _ _).2 ⟨hok, (hv _ _ rfl).2 hu⟩
    by_cases hy1 : rk y = 1
    · obtain ⟨blk2, hq⟩ := R.read1 y ρ hy1
      obtain ⟨_, u, hu⟩ := hq _ _ h3
      exact (hu _ _ rfl).2 ((hv _ _ rfl).2 ((hu _ _ rfl).1 h3))
    · have hy2 : rk y = 2 := by omega
      obtain ⟨ok, val, obj, hq⟩ := R.new2 y ρ hy2
      obtain ⟨hok, hn⟩ := (hq _ _).1 h3
      exact (hq _ _).2 ⟨hok, fun n hn' => (hv _ _ (upd_ne fun e => hblk (by rw [e]; exact hn'))).2 (hn n hn')⟩
  · have hx2 : rk x = 2 := by omega
    obtain ⟨ok1, val1, obj1, hp⟩ := R.new2 x ρ hx2
    obtain ⟨hok1, h3⟩ := (hp _ _).1 hh
    by_cases hy0 : rk y = 0
    · obtain ⟨ok, u, hq⟩ := R.pure0 y ρ hy0
      obtain ⟨n0, _, hn0⟩ := H.free []
      exact (hq _ _).2 ⟨((hq _ _).1 (h3 n0 hn0)).1, (hp _ _).2 ⟨hok1, fun n hn => ((hq _ _).1 (h3 n hn)).2⟩⟩
    by_cases hy1 : rk y = 1
    · obtain ⟨blk, hq⟩ := R.read1 y ρ hy1
      obtain ⟨n0, hn, hn0⟩ := H.free [blk]
      have hne : blk ≠ n0 := fun e => hn (by simp [e])
      obtain ⟨hblk, u, hu⟩ := hq _ _ (h3 n0 hn0)
      rw [upd_ne hne] at hblk
      refine (hu H _ (upd_ne hne).symm).2 ((hp _ _).2 ⟨hok1, fun n hn => ?_⟩)
      have hne' : blk ≠ n := fun e => hblk (by rw [e]; exact hn)
      exact (hu _ _ (by rw [upd_ne hne, upd_ne hne'])).1 (h3 n hn)
    have hy2 : rk y = 2 := by omega
    obtain ⟨ok2, val2, obj2, hq⟩ := R.new2 y ρ hy2
    obtain ⟨n0, _, hn0⟩ := H.free []
    have hok2 := ((hq _ _).1 (h3 n0 hn0)).1
    refine (hq _ _).2 ⟨hok2, fun m hm => (hp _ _).2 ⟨hok1, fun n hn => ?_⟩⟩
    have hne : n ≠ m := fun e => by subst e; rw [upd_eq] at hn; cases hn
    rw [upd_ne hne] at hn
    have h4 := ((hq _ _).1 (h3 n hn)).2 m (by rw [upd_ne (fun e => hne e.symm)]; exact hm)
    rw [upd_comm H obj1 obj2 hne] at h4
    exact h4

end Go.Sh
