/-
  Which operations can change places; a region whose order is drawn.
-/
import Derived.Test.YthojhkhiamomnaaGreatSh6
namespace Go.Sh

def Sub (H H' : Heap) : Prop := ∀ b o, H b = some o → H' b = some o
theorem Sub.refl (H : Heap) : Sub H H := fun _ _ h => h
theorem Sub.upd {H : Heap} {n : Nat} {o : Obj} (hn : H n = none) : Sub H (H.upd n o) := by
  intro b o' h
  simp only [Heap.upd]
  rw [if_neg (fun e => by subst e; rw [hn] at h; cases h)]
  exact h
theorem Sub.cell {H H' : Heap} (hs : Sub H H') {a : Addr} {v : Value} (h : H.cell a = some v) : H'.cell a = some v := by
  unfold Heap.cell at *
  cases hb : H a.block with
  | none => rw [hb] at h; cases h
  | some o => rw [hs _ _ hb]; rw [hb] at h; exact h

theorem leafEx_and {l : Leaf} {r : Value → Prop} (h : leafEx l r) : ∃ v, r v ∧ ∀ r' : Value → Prop, r' v → leafEx l r' := by
  cases l with
  | int k => obtain ⟨n, h⟩ := h; exact ⟨_, h, fun r' h' => ⟨_, h'⟩⟩
  | bool => obtain ⟨n, h⟩ := h; exact ⟨_, h, fun r' h' => ⟨_, h'⟩⟩
  | str => obtain ⟨n, h⟩ := h; exact ⟨_, h, fun r' h' => ⟨_, h'⟩⟩
  | ptr => obtain ⟨n, h⟩ := h; exact ⟨_, h, fun r' h' => ⟨_, h'⟩⟩
  | slice => obtain ⟨a, b, c, h⟩ := h; exact ⟨_, h, fun r' h' => ⟨_, _, _, h'⟩⟩
  | any => obtain ⟨v, h⟩ := h; exact ⟨_, h, fun r' h' => ⟨_, h'⟩⟩

/-- The blocks that matter are alike. -/
theorem ldCells_read {H : Heap} {a : Addr} {K : List Value → Prop} : ∀ (ls : List Leaf) (i : Nat) (acc : List Value), ldCells H a i ls acc K →
    ∃ vs, K vs ∧ ∀ (H' : Heap) (K' : List Value → Prop), (∀ p : Addr, p.block = a.block → ∀ v, H.cell p = some v → H'.cell p = some v) → K' vs → ldCells H' a i ls acc K' := by
  intro ls
  induction ls with
  | nil => exact fun i acc h => ⟨acc, h, fun _ _ _ h' => h'⟩
  | cons l ls ih =>
    intro i acc h
    obtain ⟨v, ⟨hv, h⟩, hl⟩ := leafEx_and h
    obtain ⟨vs, hk, hr⟩ := ih _ _ h
    refine ⟨vs, hk, fun H' K' hb hk' => hl _ ⟨hb _ ?_ _ hv, hr H' K' hb hk'⟩⟩
    cases i <;> rfl

theorem LoadW.read {P : Program} {t : TypeId} {x : Value} {H : Heap} {K : Value → Heap → Prop} (h : LoadW P t x H K) :
    ∃ v, K v H ∧ ∀ (H' : Heap) (K' : Value → Heap → Prop), (∀ q, x = .pointer (some q) → ∀ p : Addr, p.block = q.block → ∀ v, H.cell p = some v → H'.cell p = some v) → K' v H' → LoadW P t x H' K' := by
  unfold LoadW at h
  split at h
  · rename_i a
    split at h
    · rename_i hb
      obtain ⟨v, ⟨hv, hk⟩, hl⟩ := leafEx_and h
      refine ⟨v, hk, fun H' K' hs hk' => ?_⟩
      simp only [LoadW, hb]
      exact hl _ ⟨hs a rfl _ rfl _ hv, hk'⟩
    · rename_i hb
      split at h
      · rename_i hc
        obtain ⟨vs, hk, hr⟩ := ldCells_read _ _ _ h
        refine ⟨_, hk, fun H' K' hs hk' => ?_⟩
        simp only [LoadW, hb, hc]
        exact hr H' _ (hs a rfl) hk'
      · rename_i hc
        obtain ⟨cs, hl, hcs, hk⟩ := h
        refine ⟨_, hk, fun H' K' hs hk' => ?_⟩
        simp only [LoadW, hb, hc]
        refine ⟨cs, hl, fun j hj => ?_, hk'⟩
        have := hcs j hj
        rw [List.getElem?_eq_getElem hj] at this ⊢
        refine hs a rfl _ ?_ _ this
        unfold Addr.add; split <;> rfl
    · exact h.elim
  · exact h.elim

theorem leafEx_det {l : Leaf} {o : Option Value} {r r' : Value → Prop} (h : leafEx l fun v => o = some v ∧ r v) (h' : leafEx l fun v => o = some v ∧ r' v) : ∃ v, o = some v ∧ r v ∧ r' v := by
  obtain ⟨v, hv, hr⟩ := leafEx.elim h
  obtain ⟨v', hv', hr'⟩ := leafEx.elim h'
  rw [hv] at hv'; cases hv'
  exact ⟨v, hv, hr, hr'⟩

theorem ldCells_det {H : Heap} {a : Addr} {K K' : List Value → Prop} : ∀ (ls : List Leaf) (i : Nat) (acc : List Value), ldCells H a i ls acc K → ldCells H a i ls acc K' → ∃ vs, K vs ∧ K' vs := by
  intro ls
  induction ls with
  | nil => exact fun i acc h h' => ⟨acc, h, h'⟩
  | cons l ls ih =>
    intro i acc h h'
    obtain ⟨v, _, hr, hr'⟩ := leafEx_det h h'
    exact ih _ _ hr hr'

theorem LoadW.det {P : Program} {t : TypeId} {x : Value} {H : Heap} {K K' : Value → Heap → Prop} (h : LoadW P t x H K) (h' : LoadW P t x H K') : ∃ v, K v H ∧ K' v H := by
  unfold LoadW at h h'
  cases x <;> first | exact h.elim | skip
  rename_i a
  cases a with
  | none => exact h.elim
  | some a =>
    simp only at h h'
    split at h
    · rename_i hb
      rw [hb] at h'
      obtain ⟨v, _, hr, hr'⟩ := leafEx_det h h'
      exact ⟨v, hr, hr'⟩
    · rename_i hb
      rw [hb] at h'
      simp only at h'
      split at h
      · rename_i hc
        rw [hc] at h'
        obtain ⟨vs, hr, hr'⟩ := ldCells_det _ _ _ h h'
        exact ⟨_, hr, hr'⟩
      · rename_i hc
        rw [hc] at h'
        obtain ⟨cs, hl, hcs, hk⟩ := h
        obtain ⟨cs', hl', hcs', hk'⟩ := h'
        have : cs = cs' := by
          apply List.ext_getElem?
          intro j
          by_cases hj : j < cs.length
          · rw [← hcs j hj, ← hcs' j (by omega)]
          · rw [List.getElem?_eq_none (by omega), List.getElem?_eq_none (by omega)]
        subst this
        exact ⟨_, hk, hk'⟩
    · exact h.elim

theorem LoadW.there {P : Program} {t : TypeId} {p : Addr} {H : Heap} {K : Value → Heap → Prop} {n : Nat} (hs : szOf P t = some (n + 1)) (h : LoadW P t (.pointer (some p)) H K) : H p.block ≠ none := by
  have some_of : ∀ (q : Addr) (v : Value), q.block = p.block → H.cell q = some v → H p.block ≠ none := by
    intro q v hq hv e
    simp only [Heap.cell, hq, e] at hv
    cases hv
  unfold LoadW at h
  simp only at h
  have hc : P.cellsOf t = n + 1 := by
    unfold szOf at hs
    cases hi : P.info? t with
    | none => rw [hi] at hs; cases hs
    | some i => rw [hi] at hs; simp only [Option.some.injEq] at hs; simp [Program.cellsOf, hi, hs]
  split at h
  · obtain ⟨v, hv, _⟩ := leafEx.elim h
    exact some_of _ _ rfl hv
  · split at h
    · rename_i hb
      simp only [Bool.and_eq_true] at hb
      have hl := Nat.eq_of_beq_eq_true hb.2
      rw [hc] at hl
      cases hls : leaves P 6 t with
      | nil => rw [hls] at hl; simp at hl
      | cons l ls =>
        rw [hls] at h
        obtain ⟨v, hv, _⟩ := leafEx.elim h
        exact some_of _ _ rfl hv
    · obtain ⟨cs, hl, hcs, _⟩ := h
      have h0 := hcs 0 (by omega)
      rw [List.getElem?_eq_getElem (by omega)] at h0
      exact some_of _ _ (by unfold Addr.add; rfl) h0
  · exact h.elim

theorem cell_some {H : Heap} {a : Addr} {v : Value} (h : H.cell a = some v) : H a.block ≠ none := by
  intro e
  simp only [Heap.cell, e] at h
  cases h

/-- A run that asks memory for nothing. -/
def PureW (W : Heap → (Value → Heap → Prop) → Prop) : Prop := ∃ (ok : Prop) (v : Value), ∀ H K, W H K ↔ (ok ∧ K v H)
/-- A run that reads one block. -/
def ReadW (W : Heap → (Value → Heap → Prop) → Prop) : Prop := ∃ blk : Nat, ∀ H K, W H K → H blk ≠ none ∧ ∃ v, ∀ H' K', H' blk = H blk → (W H' K' ↔ K' v H')

theorem pureW_k {v : Value} : PureW (fun H K => K v H) := ⟨True, v, fun _ _ => ⟨fun h => ⟨trivial, h⟩, fun h => h.2⟩⟩
theorem pureW_false : PureW (fun _ _ => False) := ⟨False, undef, fun _ _ => ⟨fun h => h.elim, fun h => h.1.elim⟩⟩
theorem pureW_if {c : Prop} {W : Heap → (Value → Heap → Prop) → Prop} (h : PureW W) : PureW (fun H K => c ∧ W H K) := by
  obtain ⟨ok, v, h⟩ := h
  exact ⟨c ∧ ok, v, fun H K => by show (c ∧ W H K) ↔ _; rw [h]; exact ⟨fun h => ⟨⟨h.1, h.2.1⟩, h.2.2⟩, fun h => ⟨h.1.1, h.1.2, h.2⟩⟩⟩

theorem pure_eqw {P : Program} {op : BinOp} {t : TypeId} {x y : Value} : PureW (EqW P op t x y) := by
  unfold EqW
  cases eqPure P 6 t x y with
  | none => exact pureW_false
  | some b => cases op <;> exact pureW_k

theorem bin_eq {P : Program} {lit : Bool} {op : BinOp} {t : TypeId} {x y : Value} (h : ∀ H K, BinW P lit op t x y H K = EqW P op t x y H K) : PureW (BinW P lit op t x y) := by
  have : BinW P lit op t x y = EqW P op t x y := by funext H K; exact h H K
  rw [this]; exact pure_eqw

theorem pure_bin {P : Program} {lit : Bool} {op : BinOp} {t : TypeId} {x y : Value} : PureW (BinW P lit op t x y) := by
  cases x <;> cases y
  case int.int k a k' b =>
    unfold BinW
    simp only
    cases hs : isShift op with
    | true =>
      cases hk : decide (k = k') <;> simp only <;> (cases op <;> first | (cases hs; done) | exact pureW_if pureW_k)
    | false =>
      cases hk : decide (k = k') <;> simp only
      · exact pureW_false
      · cases hd : isDiv op with
        | true => cases op <;> first | (cases hd; done) | exact pureW_if pureW_k
        | false => cases op <;> first | (cases hs; done) | (cases hd; done) | exact pureW_k
  case string.string a b =>
    unfold BinW
    cases op <;> simp only [Op.stringOp] <;> first | exact pureW_k | exact pureW_false | exact pureW_if pureW_k
  case agg.agg => cases op <;> first | exact pureW_false | exact pureW_if pure_eqw
  case bool.bool => cases op <;> first | exact pureW_false | exact bin_eq fun _ _ => rfl
  case pointer.pointer => cases op <;> first | exact pureW_false | exact bin_eq fun _ _ => rfl
  case slice.slice => cases op <;> first | exact pureW_false | exact bin_eq fun _ _ => rfl
  case iface.nilIface => cases op <;> first | exact pureW_false | exact bin_eq fun _ _ => rfl
  case nilIface.nilIface => cases op <;> first | exact pureW_false | exact pureW_if pure_eqw
  case map.map => cases op <;> first | exact pureW_false | exact bin_eq fun _ _ => rfl
  case nilFunc.nilFunc => cases op <;> first | exact pureW_false | exact bin_eq fun _ _ => rfl
  case func.nilFunc => cases op <;> first | exact pureW_false | exact bin_eq fun _ _ => rfl
  all_goals exact pureW_false

theorem pure_nil {p : Option Addr} {W : Addr → Heap → (Value → Heap → Prop) → Prop} (h : ∀ a, PureW (W a)) : PureW (fun H K => NilP p fun a => W a H K) := by
  cases p with
  | none => exact pureW_false
  | some a => exact h a

theorem pure_inB {n : Int} {len : Nat} {W : Nat → Heap → (Value → Heap → Prop) → Prop} (h : ∀ a, PureW (W a)) : PureW (fun H K => InB n len fun a => W a H K) :=
  pureW_if (pureW_if (h _))
theorem pure_inC {n : Int} {len : Nat} {W : Nat → Heap → (Value → Heap → Prop) → Prop} (h : ∀ a, PureW (W a)) : PureW (fun H K => InC n len fun a => W a H K) :=
  pureW_if (pureW_if (h _))
theorem pure_slHi {hi : Option Value} {len cap : Nat} {W : Nat → Heap → (Value → Heap → Prop) → Prop} (h : ∀ a, PureW (W a)) : PureW (fun H K => slHi hi len cap fun a => W a H K) := by
  cases hi with
  | none => exact h _
  | some v => cases v <;> first | exact pureW_false | exact pure_inC h
theorem pure_size {P : Program} {t : TypeId} {W : Nat → Heap → (Value → Heap → Prop) → Prop} (h : ∀ a, PureW (W a)) : PureW (fun H K => sizeK P t fun a => W a H K) := by
  unfold sizeK
  cases szOf P t with
  | none => exact pureW_false
  | some s => exact h s
theorem pure_elem {a : Addr} {m s : Nat} {W : Addr → Heap → (Value → Heap → Prop) → Prop} (h : ∀ a, PureW (W a)) : PureW (fun H K => elemAt a m s fun a => W a H K) := by
  unfold elemAt
  cases a.spot with
  | none => exact h _
  | some s => exact pureW_false

theorem pure_idxAddr {P : Program} {t : TypeId} {x i : Value} : PureW (IdxAddrW P t x i) := by
  unfold IdxAddrW
  split
  · exact pure_size fun s => pure_inB fun m => pure_elem fun a => pureW_k
  · exact pure_size fun s => pure_nil fun a => pure_inB fun m => pure_elem fun a => pureW_k
  · exact pureW_false

theorem pure_idx {P : Program} {t : TypeId} {x i : Value} : PureW (IdxW P t x i) := by
  unfold IdxW
  split
  · exact pure_inB fun m => pureW_k
  · refine pure_size fun s => pure_inB fun m => ?_
    split
    · exact pureW_k
    · split
      · exact pureW_k
      · exact pureW_false
    · exact pureW_false
  · exact pureW_false

theorem pure_slice {P : Program} {t : TypeId} {x : Value} {lo hi mx : Option Value} : PureW (SliceW P t x lo hi mx) := by
  unfold SliceW
  split
  · exact pure_slHi fun h => pure_slHi fun l => pureW_k
  · refine pure_size fun s => pure_slHi fun h => ?_
    cases lo with
    | none => exact pureW_k
    | some v => exact pure_slHi fun l => pureW_k
  · refine pure_size fun s => pure_slHi fun h => ?_
    cases lo with
    | none => exact pureW_k
    | some v => exact pure_slHi fun l => pureW_k
  · refine pure_size fun s => ?_
    cases hi with
    | none => exact pureW_false
    | some hv => exact pure_slHi fun m => pure_slHi fun h => pure_slHi fun l => pureW_k
  · exact pureW_false

theorem pure_fieldAddr {P : Program} {s : TypeId} {x : Value} {f : Nat} : PureW (FieldAddrW P s x f) := by
  unfold FieldAddrW
  split
  · split
    · refine pure_size fun n => ?_
      cases n with
      | zero => exact pureW_false
      | succ n => exact pureW_k
    · exact pureW_false
  · exact pureW_false

theorem pure_field {P : Program} {s : TypeId} {x : Value} {f : Nat} : PureW (FieldW P s x f) := by
  unfold FieldW
  split
  · split
    · split
      · exact pure_size fun n => pureW_k
      · split
        · exact pureW_k
        · exact pureW_false
      · exact pureW_false
    · exact pureW_false
  · exact pureW_false

theorem pure_len {P : Program} {t : Option TypeId} {x : Option Value} : PureW (LenW P t x) := by
  unfold LenW
  split
  · split <;> first | exact pureW_k | exact pureW_false
  · exact pureW_false
theorem pure_cap {P : Program} {t : Option TypeId} {x : Option Value} : PureW (CapW P t x) := by
  unfold CapW
  split
  · split <;> first | exact pureW_k | exact pureW_false
  · exact pureW_false
theorem pure_minMax {b : Bool} {args : List Value} : PureW (MinMaxW b args) := by
  unfold MinMaxW
  split
  · exact pureW_k
  · exact pureW_k
  · exact pureW_false
theorem pure_un {P : Program} {op : UnOp} {x : Value} : PureW (UnW P op x) := by
  cases x <;> first | exact pureW_false | skip
  · cases op <;> first | exact pureW_k | exact pureW_false
  · cases op <;> first | exact pureW_k | exact pureW_false
theorem pure_conv {P : Program} {s d ot : TypeId} {x : Value} (hs : isIntT P s = true) : PureW (ConvW P s d ot x) := by
  unfold ConvW
  rw [hs]
  simp only
  split
  · exact pureW_k
  · exact pureW_false

theorem pure_sta {P : Program} {t : TypeId} {x : Value} : PureW (StaW P t x) := by
  unfold StaW
  split
  · split
    · exact pureW_false
    · exact pureW_k
  · exact pureW_false

theorem OpW.pure0 {P : Program} {o : Oper} (hr : rank P o = 0) (ρ : Env) : PureW (OpW P o ρ) := by
  unfold rank at hr
  unfold OpW
  cases ho : o.op <;> rw [ho] at hr <;> simp only at hr ⊢ <;> first | (cases hr; done) | skip
  case load t a => split at hr <;> cases hr
  case makeMap t r => cases r <;> cases hr
  case sliceToArrayPointer => exact pure_sta
  case move => exact pureW_k
  case assign => exact pureW_k
  case pick c a b =>
    split
    · exact pureW_k
    · exact pureW_false
  case nilCheck =>
    split
    · exact pure_nil fun a => pureW_k
    · exact pureW_false
  case binOp => exact pure_bin
  case unOp => exact pure_un
  case convert s d x =>
    cases hs : isIntT P s with
    | true => exact pure_conv hs
    | false => rw [hs] at hr; cases hb : isBts P s d <;> rw [hb] at hr <;> cases hr
  case slice => exact pure_slice
  case fieldAddr => exact pure_fieldAddr
  case field => exact pure_field
  case indexAddr => exact pure_idxAddr
  case index => exact pure_idx
  case build =>
    split
    · exact pureW_k
    · exact pureW_false
  case extract =>
    split
    · split
      · exact pureW_k
      · exact pureW_false
    · exact pureW_false
  case call c =>
    unfold CallW
    cases hc : c.callee with
    | value f => rw [hc] at hr; cases hr
    | invoke r m => rw [hc] at hr; cases hr
    | builtin b =>
      rw [hc] at hr
      cases b <;> simp only at hr ⊢ <;> first | (cases hr; done) | exact pure_cap | exact pure_minMax | skip
      cases hm : isMapT P c.argTypes.toList[0]? with
      | false => exact pure_len
      | true => rw [hm] at hr; cases hr

theorem OpW.read1 {P : Program} {o : Oper} (hr : rank P o = 1) (ρ : Env) : ReadW (OpW P o ρ) := by
  unfold rank at hr
  unfold OpW
  cases ho : o.op <;> rw [ho] at hr <;> simp only at hr ⊢ <;> first | (cases hr; done) | skip
  case makeMap t r => cases r <;> cases hr
  case load t a =>
    generalize ev ρ a = x
    refine ⟨match x with | .pointer (some p) => p.block | _ => 0, fun H K h => ?_⟩
    have hx : ∃ p, x = .pointer (some p) := by
      unfold LoadW at h
      split at h
      · exact ⟨_, rfl⟩
      · exact h.elim
    obtain ⟨p, rfl⟩ := hx
    simp only
    obtain ⟨v, hk, hl⟩ := LoadW.read h
    have blockOf : ∀ {H H' : Heap}, H' p.block = H p.block → ∀ q, (Value.pointer (some p)) = .pointer (some q) → ∀ p' : Addr, p'.block = q.block → ∀ v, H.cell p' = some v → H'.cell p' = some v := by
      intro H H' hb q hq p' hp' v hv
      cases hq
      simp only [Heap.cell, hp', hb] at hv ⊢
      exact hv
    cases hsz : szOf P t with
    | none => rw [hsz] at hr; cases hr
    | some n =>
      cases n with
      | zero => rw [hsz] at hr; cases hr
      | succ n =>
      refine ⟨LoadW.there hsz h, v, fun H' K' hb => ⟨fun h' => ?_, fun hk' => hl H' K' (blockOf hb) hk'⟩⟩
      obtain ⟨v', hv', hl'⟩ := LoadW.read h'
      have h2 := hl' H (fun u _ => u = v') (blockOf hb.symm) rfl
      have h3 := hl H (fun u _ => u = v) (blockOf rfl) rfl
      obtain ⟨u, h4, h5⟩ := LoadW.det h2 h3
      subst h4; subst h5; exact hv'
  case convert s d x => cases hs : isIntT P s <;> rw [hs] at hr <;> first | (cases hr; done) | (cases hb : isBts P s d <;> rw [hb] at hr <;> cases hr)
  case call c =>
    exfalso
    cases hc : c.callee with
    | value f => rw [hc] at hr; cases hr
    | invoke r m => rw [hc] at hr; cases hr
    | builtin b => rw [hc] at hr; cases b <;> first | (cases hr; done) | (cases hm : isMapT P c.argTypes.toList[0]? <;> simp only [hm] at hr <;> cases hr)

/-- A program that ends in halting. -/
def deadS (P : Program) {α : Type} : Sem α → Prop
  | .halt _ => True
  | .program k => deadS P (k P)
  | .mark _ k => deadS P k
  | .choose _ k => ∀ t, deadS P (k t)
  | _ => False
/-- A program that makes one block, and no more, or halts. -/
def onlyNew (P : Program) : Sem Value → Prop
  | .new _ k => ∃ l c : Nat, ∀ n, k n = .pure (.slice (some ⟨n, 0, none⟩) l c)
  | .program k => onlyNew P (k P)
  | .mark _ k => onlyNew P k
  | .choose _ k => ∀ t, deadS P (k t)
  | .halt _ => True
  | _ => False
theorem deadS.no {P : Program} {α : Type} {K : α → Heap → Prop} : ∀ (s : Sem α) (H : Heap), deadS P s → ¬ SemW P s H K
  | .halt _, _, _, h => h
  | .program k, H, d, h => deadS.no (k P) H d h
  | .mark _ k, H, d, h => deadS.no k H d h
  | .choose q k, H, d, h => by
    cases hq : q.forced with
    | true => exact deadS.no (k 0) H (d 0) (h.1 hq)
    | false => exact deadS.no (k (q.cut 0)) H (d _) (h.2 hq 0)
theorem onlyNew.iff {P : Program} : ∀ (s : Sem Value), onlyNew P s → ∃ (ok : Prop) (l c : Nat) (obj : Obj), ∀ (H : Heap) (K : Value → Heap → Prop), SemW P s H K ↔ (ok ∧ ∀ n, H n = none → K (.slice (some ⟨n, 0, none⟩) l c) (H.upd n obj))
  | .new o k, ⟨l, c, hv⟩ => ⟨True, l, c, o, fun H K => ⟨fun h => ⟨trivial, fun n hn => by have := h n hn; rw [hv n] at this; exact this⟩, fun h n hn => by rw [hv n]; exact h.2 n hn⟩⟩
  | .program k, h => onlyNew.iff (k P) h
  | .mark _ k, h => onlyNew.iff k h
  | .choose q k, h => ⟨False, 0, 0, default, fun H K => ⟨fun h' => by
      cases hq : q.forced with
      | true => exact (deadS.no (k 0) H (h 0) (h'.1 hq)).elim
      | false => exact (deadS.no (k (q.cut 0)) H (h _) (h'.2 hq 0)).elim, fun h' => h'.1.elim⟩⟩
  | .halt _, _ => ⟨False, 0, 0, default, fun H K => ⟨fun h => h.elim, fun h => h.1.elim⟩⟩
theorem onlyNew_underlying {P : Program} {t : TypeId} {f : TypeDesc → Sem Value} (h : ∀ d, P.underlying t = some d → onlyNew P (f d)) : onlyNew P (underlying t >>= f) := by
  unfold underlying
  show onlyNew P ((match P.underlying t with | some d => pure d | none => stuck "no such type") >>= f)
  cases hu : P.underlying t with
  | none => trivial
  | some d => exact h d hu
theorem onlyNew_info {P : Program} {t : TypeId} {f : TypeInfo → Sem Value} (h : ∀ i, P.info? t = some i → onlyNew P (f i)) : onlyNew P (typeInfo t >>= f) := by
  unfold typeInfo
  show onlyNew P ((match P.info? t with | some d => pure d | none => stuck "no such type") >>= f)
  cases hu : P.info? t with
  | none => trivial
  | some d => exact h d hu
theorem onlyNew_zero {P : Program} {t : TypeId} {f : Value → Sem Value} (h : ∀ v, onlyNew P (f v)) : onlyNew P (zeroValue t >>= f) := by
  unfold zeroValue typeInfo
  show onlyNew P (((match P.info? t with | some d => pure d | none => stuck "no such type") >>= fun i => match i.zero with | some v => pure v | none => unsupported (.resourceLimit "a value of more than 2^22 cells")) >>= f)
  cases hu : P.info? t with
  | none => trivial
  | some d =>
    show onlyNew P ((match d.zero with | some v => pure v | none => unsupported (.resourceLimit "a value of more than 2^22 cells")) >>= f)
    cases hz : d.zero with
    | none => trivial
    | some v => exact h v
theorem onlyNew_size {P : Program} {t : TypeId} {f : Nat → Sem Value} (h : ∀ v, onlyNew P (f v)) : onlyNew P (sizeOf t >>= f) := by
  unfold sizeOf typeInfo
  show onlyNew P (((match P.info? t with | some d => pure d | none => stuck "no such type") >>= fun i => pure i.size) >>= f)
  cases hu : P.info? t with
  | none => trivial
  | some d => exact h d.size
theorem onlyNew_asInt {P : Program} {v : Value} {f : Int → Sem Value} (h : ∀ n, onlyNew P (f n)) : onlyNew P (asInt v >>= f) := by
  unfold asInt asIntOf
  cases v with
  | int k n => exact h n
  | pointer a => cases a <;> trivial
  | _ => trivial
theorem onlyNew_make (P : Program) (t : TypeId) (l c : Value) : onlyNew P (Instr.makeSlice t l c) := by
  unfold Instr.makeSlice
  refine onlyNew_underlying fun d _ => ?_
  cases d <;> first | trivial | skip
  refine onlyNew_asInt fun len => onlyNew_asInt fun cap => onlyNew_info fun i hi => ?_
  simp only
  split
  · split
    · trivial
    · split
      · trivial
      · exact fun _ => trivial
  · unfold askRoom
    have key : ∀ (n : Nat) (z : Array Value) (len cap : Nat) (e : TypeId), onlyNew P (newRow e ((Array.range n).map (z[· % z.size]!)) >>= fun a => pure (Value.slice (some a) len cap)) := by
      intro n z len cap e
      exact ⟨len, cap, fun n => rfl⟩
    split
    · show onlyNew P (sizeOf _ >>= _)
      refine onlyNew_size fun s => ?_
      split
      · exact key _ _ _ _ _
      · exact onlyNew_zero fun z => key _ _ _ _ _
    · show onlyNew P (sizeOf _ >>= _)
      refine onlyNew_size fun s => ?_
      split
      · exact key _ _ _ _ _
      · exact onlyNew_zero fun z => key _ _ _ _ _
theorem ofTy_slice {P : Program} {t : TypeId} {a a' : Option Addr} {l c : Nat} (h : tyEx P t fun u => Value.slice a l c = u) : tyEx P t fun u => Value.slice a' l c = u := by
  unfold tyEx at h ⊢
  split
  · rename_i hu
    rw [hu] at h
    obtain ⟨vs, h⟩ := tyExL.elim _ _ h
    cases h
  · rename_i hu
    split at h
    · rename_i ts hu'; exact absurd hu' (hu ts)
    · unfold tyEx1 at h ⊢
      split at h
      · split at h
        · obtain ⟨vs, h⟩ := leafL.elim _ _ h; cases h
        · obtain ⟨vs, h⟩ := h; cases h
      · cases hl : leafOf P t <;> rw [hl] at h <;> simp only [leafEx] at h ⊢
        case slice => exact ⟨_, _, _, rfl⟩
        case any => exact ⟨_, rfl⟩
        case str => obtain ⟨_, h⟩ := h; cases h
        case int => obtain ⟨_, h⟩ := h; cases h
        case bool => obtain ⟨_, h⟩ := h; cases h
        case ptr => obtain ⟨_, h⟩ := h; cases h
theorem make_iff (P : Program) (t ot : TypeId) (l c : Value) : ∃ (ok : Prop) (val : Nat → Value) (obj : Obj), ∀ (H : Heap) (K : Value → Heap → Prop), MakeW P t l c H (ofTy P ot K) ↔ (ok ∧ ∀ n, H n = none → K (val n) (H.upd n obj)) := by
  obtain ⟨ok, l', c', obj, h⟩ := onlyNew.iff (Instr.makeSlice t l c) (onlyNew_make P t l c)
  by_cases hv : tyEx P ot fun u => Value.slice (some ⟨0, 0, none⟩) l' c' = u
  · refine ⟨ok, fun n => .slice (some ⟨n, 0, none⟩) l' c', obj, fun H K => ?_⟩
    unfold MakeW
    rw [h]
    refine ⟨fun ⟨h1, h2⟩ => ⟨h1, fun n hn => ofTy.elim (h2 n hn)⟩, fun ⟨h1, h2⟩ => ⟨h1, fun n hn => ?_⟩⟩
    exact tyEx.mono (fun u hu => ⟨hu, by rw [← hu]; exact h2 n hn⟩) (ofTy_slice hv)
  · refine ⟨False, fun _ => undef, default, fun H K => ⟨fun h' => ?_, fun h => h.1.elim⟩⟩
    unfold MakeW at h'
    rw [h] at h'
    obtain ⟨n0, hf⟩ := H.fin
    exact absurd (ofTy_slice (tyEx.mono (fun u hu => hu.1) (h'.2 n0 (hf n0 (Nat.le_refl _))))) hv

theorem OpW.new2 {P : Program} {o : Oper} (hr : rank P o = 2) (ρ : Env) :
    ∃ (ok : Prop) (val : Nat → Value) (obj : Obj), ∀ H K, OpW P o ρ H K ↔ (ok ∧ ∀ n, H n = none → K (val n) (H.upd n obj)) := by
  unfold rank at hr
  unfold OpW
  cases ho : o.op <;> rw [ho] at hr <;> simp only at hr ⊢ <;> first | (cases hr; done) | skip
  case load t a => split at hr <;> cases hr
  case makeMap t r =>
    cases r with
    | none => exact ⟨True, _, _, fun H K => ⟨fun h => ⟨trivial, h⟩, fun h => h.2⟩⟩
    | some x => cases hr
  case alloc t =>
    cases hz : zeroL P t with
    | some l => exact ⟨True, _, _, fun H K => ⟨fun h => ⟨trivial, h⟩, fun h => h.2⟩⟩
    | none => exact ⟨False, fun _ => undef, default, fun H K => ⟨fun h => h.elim, fun h => h.1.elim⟩⟩
  case makeSlice t l c => exact make_iff P t o.type _ _
  case box t v => exact ⟨True, _, _, fun H K => ⟨fun h => ⟨trivial, h⟩, fun h => h.2⟩⟩
  case buildSlice t len parts =>
    have no : ∃ (ok : Prop) (val : Nat → Value) (obj : Obj), ∀ (H : Heap) (K : Value → Heap → Prop), False ↔ (ok ∧ ∀ n, H n = none → K (val n) (H.upd n obj)) :=
      ⟨False, fun _ => undef, default, fun H K => ⟨fun h => h.elim, fun h => h.1.elim⟩⟩
    split
    · split
      · exact ⟨True, _, _, fun H K => ⟨fun h => ⟨trivial, h⟩, fun h => h.2⟩⟩
      · exact no
    · exact no
  case convert s d x => cases hs : isIntT P s <;> rw [hs] at hr <;> first | (cases hr; done) | (cases hb : isBts P s d <;> rw [hb] at hr <;> cases hr)
  case call c =>
    exfalso
    cases hc : c.callee with
    | value f => rw [hc] at hr; cases hr
    | invoke r m => rw [hc] at hr; cases hr
    | builtin b => rw [hc] at hr; cases b <;> first | (cases hr; done) | (cases hm : isMapT P c.argTypes.toList[0]? <;> simp only [hm] at hr <;> cases hr)

end Go.Sh
