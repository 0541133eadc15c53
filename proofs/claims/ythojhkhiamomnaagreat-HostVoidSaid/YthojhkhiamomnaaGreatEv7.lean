/-
  One operation; rows of operations; regions.
-/
import Derived.Test.YthojhkhiamomnaaGreatEvM2
import Derived.Test.YthojhkhiamomnaaGreatShK
noncomputable section
set_option linter.all false
namespace Go.Ev
variable [Sym]
open Go.Sh

abbrev Calls := FuncId → List CV → CH → Option (CV × CH)
/-- What comes of a call. -/
def Ret (P : Program) (H0 : Heap) (r : List RB) (h : CH) (H : Heap) (y : CV) (h' : CH) : Value → Heap → Prop := fun v H' => ∃ r', Ex r h H r' h' H' ∧ Rl P H0 r' h' H' ∧ VR r' y v
/-- From this number on what is called is the rest of a loop over a function. -/
def yB : Nat := 1000000000
/-- A call of a function, or of what is handed to one that is looped over. -/
def CalW (P : Program) (r : List RB) (f : FuncId) (vs : List Value) (H : Heap) (R : Value → Heap → Prop) : Prop := match Nat.blt f yB with
  | true => (match isExt P f with
    | false => FnW P f ⟨vs⟩ H R
    | true => SemW P (callFunc f ⟨vs⟩) H (NextW P R))
  | false => ∃ b, r[f - yB]? = some b ∧ YieldW P b.blk vs H R
theorem CalW.mono {P : Program} {r : List RB} {f : FuncId} {vs : List Value} {H : Heap} {R R' : Value → Heap → Prop} (hr : ∀ v H', R v H' → R' v H') (h : CalW P r f vs H R) : CalW P r f vs H R' := by
  unfold CalW at h ⊢
  split at h
  · split at h
    · exact h.mono hr
    · exact SemW.mono _ _ _ _ (fun n H h => NextW.mono hr n H h) h
  · obtain ⟨b, h1, h2⟩ := h; exact ⟨b, h1, h2.mono hr⟩
theorem CalW.fn {P : Program} {r : List RB} {f : FuncId} {vs : List Value} {H : Heap} {R : Value → Heap → Prop} (hy : Nat.blt f yB = true) (h : FnW P f ⟨vs⟩ H R) : CalW P r f vs H R := by
  unfold CalW
  have hx : isExt P f = false := by
    obtain ⟨fn, hf, _, hb⟩ := h.1
    unfold isExt
    rw [hf]; exact hb
  rw [hy, hx]
  exact h
def CallOk (P : Program) (call : Calls) : Prop := ∀ (H0 : Heap) (f : FuncId) (xs : List CV) (h : CH) (y : CV) (h' : CH), call f xs h = some (y, h') → ∀ (r : List RB) (H : Heap) (vs : List Value), Rl P H0 r h H → VRs r xs vs → CalW P r f vs H (Ret P H0 r h H y h')

mutual
/-- Values without addresses. -/
def freeB : CV → Bool
  | .ptr _ _ | .sl _ _ _ _ _ | .mp _ | .yld _ => false
  | .fn _ cs => freesB cs
  | .bnd _ cs => freesB cs
  | .ifc _ c => freeB c
  | .agg cs => freesB cs
  | .tup cs => freesB cs
  | _ => true
def freesB : List CV → Bool
  | [] => true
  | c :: cs => match freeB c with
    | true => freesB cs
    | false => false
end
mutual
theorem freeB.ok {r r' : List RB} : ∀ (c : CV) (v : Value), freeB c = true → VR r c v → VR r' c v
  | .bool _, _, _, e => e
  | .int _ _, _, _, e => e
  | .str _, _, _, e => e
  | .ptr _ _, _, h, _ => by simp [freeB] at h
  | .nilp, _, _, e => e
  | .sl .., _, h, _ => by simp [freeB] at h
  | .nils, _, _, e => e
  | .sl0, _, _, e => by simp only [VR] at e ⊢; exact e
  | .mp _, _, h, _ => by simp [freeB] at h
  | .nilm, _, _, e => e
  | .fn f cs, _, h, e => by simp only [VR, freeB] at h e ⊢; obtain ⟨vs, e, hs⟩ := e; exact ⟨vs, e, freesB.ok cs vs h hs⟩
  | .bnd f cs, _, h, e => by simp only [VR, freeB] at h e ⊢; obtain ⟨u, us, e, hs⟩ := e; exact ⟨u, us, e, freesB.ok cs _ h hs⟩
  | .nilf, _, _, e => e
  | .ifc t c, _, h, e => by simp only [VR, freeB] at h e ⊢; obtain ⟨w, e, hs⟩ := e; exact ⟨w, e, freeB.ok c w h hs⟩
  | .nili, _, _, e => e
  | .agg cs, _, h, e => by simp only [VR, freeB] at h e ⊢; obtain ⟨vs, e, hs⟩ := e; exact ⟨vs, e, freesB.ok cs vs h hs⟩
  | .tup cs, _, h, e => by simp only [VR, freeB] at h e ⊢; obtain ⟨vs, e, hs⟩ := e; exact ⟨vs, e, freesB.ok cs vs h hs⟩
  | .opq _, _, _, e => e
  | .yld _, _, h, _ => by simp [freeB] at h
  | .sym _, _, _, e => e
theorem freesB.ok {r r' : List RB} : ∀ (cs : List CV) (vs : List Value), freesB cs = true → VRs r cs vs → VRs r' cs vs
  | [], _, _, e => e
  | c :: cs, _, h, e => by
    simp only [VRs, freesB] at h e ⊢
    obtain ⟨v, us, e, h1, h2⟩ := e
    split at h
    · rename_i h0; exact ⟨v, us, e, freeB.ok c v h0 h1, freesB.ok cs us h h2⟩
    · cases h
end

/-- A call; what it made and did not hand on is forgotten. -/
def callG (call : Calls) (f : FuncId) (xs : List CV) (h : CH) : Option (CV × CH) := match call f xs h.mark with
  | some (y, h') => (match h'.d with
    | [] => (match freeB y with
      | true => some (y, h)
      | false => some (y, h'.back h))
    | _ :: _ => some (y, h'.back h))
  | none => none
theorem callG.ok {P : Program} {call : Calls} (hC : CallOk P call) {H0 : Heap} {f : FuncId} {xs : List CV} {h h' : CH} {y : CV} (hc : callG call f xs h = some (y, h')) {r : List RB} {H : Heap} {vs : List Value} (R : Rl P H0 r h H) (hv : VRs r xs vs) :
    CalW P r f vs H (Ret P H0 r h H y h') := by
  unfold callG at hc
  split at hc
  · rename_i y1 h1 hc1
    refine CalW.mono (fun v H' ⟨r', E', R', hy⟩ => ?_) (hC H0 f xs _ _ _ hc1 r H vs (R.re _ _) hv)
    have back : Ret P H0 r h H y1 (h1.back h) v H' := ⟨r', Ex.back R E', R'.re _ _, hy⟩
    split at hc
    · rename_i hd
      split at hc
      · rename_i hf
        cases hc
        obtain ⟨R2, E2⟩ := R.drop R' fun k b hb hl => (E'.same k b hb hl (by rw [show h.mark.m = h.n from rfl, ← R.len]; exact (List.getElem?_eq_some_iff.1 hb).1) (by rw [hd]; simp)).1
        exact ⟨r, E2, R2, freeB.ok _ _ hf hy⟩
      · cases hc; exact back
    · cases hc; exact back
  · cases hc

def okTy (P : Program) (t : TypeId) : Option (CV × CH) → Option (CV × CH)
  | some (y, h) => (match tyOk P t y with
    | true => some (y, h)
    | false => none)
  | none => none
def keepH (h : CH) : Option CV → Option (CV × CH)
  | some y => some (y, h)
  | none => none
def storeH : Option CH → Option (CV × CH)
  | some h => some (und, h)
  | none => none
def cClear (P : Program) (ats : List TypeId) (xs : List CV) (h : CH) : Option CH := match ats, xs with
  | [t], [x] => (match P.underlying t with
    | some (.slice e) => (match x with
      | .nils => some h
      | .sl0 => some h
      | .sl k o n _ _ => (match zeroC P e with
        | some z => (match Nat.beq n 0 with
          | true => some h
          | false => (match plainsB z with
            | true => wrs h k o (repC n z)
            | false => none))
        | none => none)
      | _ => none)
    | _ => none)
  | _, _ => none
def cCall (call : Calls) (P : Program) (o : Oper) (c : Call) (e : CE) (h : CH) : Option (CV × CH) := match cEvs e c.args.toList with
  | none => none
  | some xs => (match c.callee with
    | .value (.func f) => (match Nat.blt f yB with
      | true => okTy P o.type (callG call f xs h)
      | false => none)
    | .value (.tmp t) => (match getE e t with
      | .fn f caps => (match Nat.blt f yB && !(isExt P f) with
        | true => okTy P o.type (callG call f (xs ++ caps) h)
        | false => none)
      | .bnd f first => (match Nat.blt f yB && !(isExt P f) with
        | true => okTy P o.type (callG call f (first ++ xs) h)
        | false => none)
      | .yld k => okTy P o.type (callG call (yB + k) xs h)
      | _ => none)
    | .builtin .len => (match isMapT P c.argTypes.toList[0]? with
      | false => keepH h (cLen P c.argTypes.toList[0]? xs[0]?)
      | true => okTy P o.type (keepH h (cMapLen P c.argTypes.toList[0]? xs[0]? h)))
    | .builtin .cap => keepH h (cCap P c.argTypes.toList[0]? xs[0]?)
    | .builtin .append => okTy P o.type (cApp P c.argTypes.toList xs h)
    | .builtin .copy => okTy P o.type (cCopy P c.argTypes.toList xs h)
    | .builtin .min => keepH h (cMinMax false xs)
    | .builtin .max => keepH h (cMinMax true xs)
    | .builtin .clear => (match cClear P c.argTypes.toList xs h with
      | some h' => some (.tup [], h')
      | none => none)
    | .builtin .delete => (match cDelete P c.argTypes.toList xs h with
      | some h' => some (.tup [], h')
      | none => none)
    | _ => none)

def cOpt (e : CE) : Option Operand → Option (Option CV)
  | none => some none
  | some o => (match cEv e o with
    | some x => some (some x)
    | none => none)
def ptrOf : CV → Option CV
  | .ptr k o => some (.ptr k o)
  | _ => none
def cSta (P : Program) (t : TypeId) (x : CV) : Option CV := match P.underlying t, x with
  | some (.array n _), .sl k o len _ _ => (match Nat.blt len n with
    | true => none
    | false => some (.ptr k o))
  | _, _ => none
def cRange (P : Program) (t : TypeId) (x : CV) (h : CH) : Option (CV × CH) := match P.underlying t, mapAt h x with
  | some (.map _ _), some (k, [], ck) => some (.ptr h.n 0, h.add (.iter k ck))
  | _, _ => none
def cNext (h : CH) (x : CV) : Option CV := match x with
  | .ptr k o => (match Nat.beq o 0, h.t.get k with
    | true, some (.iter m ck) => (match h.t.get m with
      | some (.map [] ck') => (match Nat.beq ck ck' with
        | true => some (.tup [.bool false])
        | false => none)
      | _ => none)
    | _, _ => none)
  | _ => none
section
variable {P : Program} {H0 : Heap} {r : List RB} {h : CH} {H : Heap}
theorem cSta.ok {t : TypeId} {x y : CV} {v : Value} {K : Value → Heap → Prop} (hc : cSta P t x = some y) (hv : VR r x v) (hk : ∀ w, VR r y w → K w H) : StaW P t v H K := by
  unfold cSta at hc
  split at hc
  · rename_i n e k o len c ex hu
    obtain ⟨b, hb, rfl⟩ := hv
    split at hc
    · cases hc
    · rename_i hl
      cases hc
      unfold StaW
      rw [hu]
      simp only [hl]
      exact hk _ ⟨b, hb, rfl⟩
  · cases hc
theorem cRange.ok (R : Rl P H0 r h H) {t : TypeId} {x y : CV} {v : Value} {h' : CH} {K : Value → Heap → Prop} (hc : cRange P t x h = some (y, h')) (hv : VR r x v) (hk : Out P H0 r h H y h' K) : SemW P (Instr.range t v) H K := by
  unfold cRange at hc
  split at hc
  · rename_i kt el k ck hty hm
    cases hc
    obtain ⟨b, ms, hb, rfl, hkm, hH, hms⟩ := mapAt.ok R hm hv
    refine RgG hty hH fun n hn => ?_
    obtain ⟨R', E'⟩ := R.push (o := .iter k ck) (obj := .mapIter (some b.blk) ck #[] ck) (x := ⟨n, 0, 0⟩) hn rfl ⟨rfl, b, Pre.push _ _ _ _ hb, upd_eq⟩
    refine hk _ _ _ E' R' ⟨⟨n, 0, 0⟩, ?_, rfl⟩
    rw [← R.len]; exact last_get _
  · cases hc
theorem cNext.ok (R : Rl P H0 r h H) {T : TypeId} {x y : CV} {v : Value} {K : Value → Heap → Prop} (hc : cNext h x = some y) (hv : VR r x v) (hk : ∀ w, VR r y w → K w H) : NxW P v false T H K := by
  unfold cNext at hc
  split at hc
  · rename_i k o
    split at hc
    · rename_i m ck ho hg
      split at hc
      · rename_i ck' hg2
        split at hc
        · rename_i hcc
          cases hc
          have e1 := beq_true hcc
          have e2 := beq_true ho
          subst e1 e2
          obtain ⟨b, hb, rfl⟩ := hv
          obtain ⟨hbase, mb, hmb, hH⟩ := R.blk k b _ hb hg
          obtain ⟨ms, h1, h2⟩ := R.blk m mb _ hmb hg2
          simp only [MR] at h2
          subst h2
          unfold NxW
          rw [hbase]
          exact NxG (es := []) (seen := []) hH h1 (fun e he => by cases he) (fun _ => ⟨false, [], rfl, hk _ ⟨_, rfl, VRs.cons rfl VRs.nil⟩⟩) (fun e he => by cases he)
        · cases hc
      · cases hc
    · cases hc
  · cases hc
end
def cOp (call : Calls) (P : Program) (o : Oper) (e : CE) (h : CH) : Option (CV × CH) := match o.op with
  | .move x => keepH h (cEv e x)
  | .assign x => keepH h (cEv e x)
  | .pick c a b => (match cEv e c with
    | some (.bool t) => keepH h (match t with | true => cEv e a | false => cEv e b)
    | _ => none)
  | .load t a => (match cEv e a with
    | some x => keepH h (cLoad P t x h)
    | none => none)
  | .store t a v => (match cEv e a, cEv e v with
    | some x, some y => storeH (cStore P t x y h)
    | _, _ => none)
  | .nilCheck x => (match cEv e x with
    | some y => keepH h (ptrOf y)
    | none => none)
  | .indexAddr t x i => (match cEv e x, cEv e i with
    | some x, some i => keepH h (cIdxAddr P t x i)
    | _, _ => none)
  | .index t x i => (match cEv e x, cEv e i with
    | some x, some i => keepH h (cIdx P t x i)
    | _, _ => none)
  | .slice t x lo hi mx => (match cEv e x, cOpt e lo, cOpt e hi, cOpt e mx with
    | some x, some lo, some hi, some mx => keepH h (cSlice P t x lo hi mx)
    | _, _, _, _ => none)
  | .build t parts => (match cParts e parts.toList with
    | some ps => (match cBuild P t ps with
      | some l => some (.agg l, h)
      | none => none)
    | none => none)
  | .buildSlice t len parts => (match P.underlying t, cParts e parts.toList with
    | some (.slice el), some ps => (match cRow P el len ps with
      | some l => some (.sl h.n 0 len len false, h.add (rowO l el))
      | none => none)
    | _, _ => none)
  | .alloc t => (match zeroC P t with
    | some l => some (.ptr h.n 0, h.add (rowO l t))
    | none => none)
  | .box t v => (match cEv e v with
    | some x => some (.ptr h.n 0, h.add (rowO (cellsC x) t))
    | none => none)
  | .binOp op t x y _ => (match cEv e x, cEv e y with
    | some a, some b => keepH h (cBinL P (isLit y) op t a b)
    | _, _ => none)
  | .convert s d x => (match cEv e x with
    | some x => keepH h (cConv P s d o.type x h)
    | none => none)
  | .makeSlice t l c => (match cEv e l, cEv e c with
    | some l, some c => okTy P o.type (cMake P t l c h)
    | _, _ => none)
  | .fieldAddr s x f => (match cEv e x with
    | some x => keepH h (cFieldAddr P s x f)
    | none => none)
  | .field t x f => (match cEv e x with
    | some x => keepH h (cField P t x f)
    | none => none)
  | .extract t ix => (match cEv e t with
    | some (.tup vs) => keepH h vs[ix]?
    | _ => none)
  | .call c => cCall call P o c e h
  | .unOp op _ x => (match cEv e x with
    | some x => keepH h (cUn op x)
    | none => none)
  | .makeFunc (.func f) ⟨[]⟩ captured => (match cEvs e captured.toList with
    | some cs => some (.fn f cs, h)
    | none => none)
  | .makeFunc (.func f) ⟨d :: ds⟩ ⟨[]⟩ => (match cEvs e (d :: ds) with
    | some cs => some (.bnd f cs, h)
    | none => none)
  | .lookup t x i ok => (match cEv e x, cEv e i with
    | some x, some i => okTy P o.type (keepH h (cLookup P t x i ok h))
    | _, _ => none)
  | .makeMap _ none => some (.mp h.n, h.add (.map [] 0))
  | .mapUpdate t m k v => (match cEv e m, cEv e k, cEv e v with
    | some x, some i, some y => storeH (cUpdate P t x i y h)
    | _, _, _ => none)
  | .mapEntry t m k => (match cEv e m, cEv e k with
    | some x, some i => cMapEntry P t x i h
    | _, _ => none)
  | .entryStore _ m s v => (match cEv e m, cEv e s, cEv e v with
    | some x, some s, some y => storeH (cEntryStore x s y h)
    | _, _, _ => none)
  | .makeInterface t x => (match P.underlying t, cEv e x with
    | some (.interface _), _ => none
    | some _, some y => some (.ifc t y, h)
    | _, _ => none)
  | .sliceToArrayPointer t x => (match cEv e x with
    | some x => keepH h (cSta P t x)
    | none => none)
  | .range t m => (match cEv e m with
    | some x => cRange P t x h
    | none => none)
  | .next it false => (match cEv e it with
    | some x => keepH h (cNext h x)
    | none => none)
  | _ => none

section
variable {P : Program} {H0 : Heap} {r : List RB} {h : CH} {H : Heap}
theorem keepH.out (R : Rl P H0 r h H) {c : Option CV} {y : CV} {h' : CH} {K : Value → Heap → Prop} (hc : keepH h c = some (y, h')) (hk : Out P H0 r h H y h' K) : c = some y ∧ ∀ w, VR r y w → K w H := by
  unfold keepH at hc
  split at hc
  · cases hc; exact ⟨rfl, fun w hw => hk r H w (Ex.refl _ _ _) R hw⟩
  · cases hc
theorem cOpt.ok {e : CE} {ρ : Env} (hE : ER r e ρ) {o : Option Operand} {x : Option CV} (hx : cOpt e o = some x) : VRo r x (o.map (ev ρ)) := by
  unfold cOpt at hx
  split at hx
  · cases hx; rfl
  · split at hx
    · rename_i h1; cases hx; exact ⟨_, rfl, hE.cev h1⟩
    · cases hx
theorem okTy.out {t : TypeId} {c : Option (CV × CH)} {y : CV} {h' : CH} {K : Value → Heap → Prop} (hc : okTy P t c = some (y, h')) (hk : Out P H0 r h H y h' K) : c = some (y, h') ∧ Out P H0 r h H y h' (ofTy P t K) := by
  unfold okTy at hc
  split at hc
  · split at hc
    · rename_i ht
      cases hc
      exact ⟨rfl, fun r' H' v E R hv => tyOk.of ht hv (hk r' H' v E R hv)⟩
    · cases hc
  · cases hc
theorem Ret.out {y : CV} {h' : CH} {K : Value → Heap → Prop} (hk : Out P H0 r h H y h' K) : ∀ v H', Ret P H0 r h H y h' v H' → K v H' := fun v H' ⟨r', E, R, hv⟩ => hk r' H' v E R hv
theorem VRs.at0 {xs : List CV} {vs : List Value} (h : VRs r xs vs) (i : Nat) : VRo r xs[i]? vs[i]? := by
  cases hx : xs[i]? with
  | none =>
    have hl := h.len
    have : xs.length ≤ i := List.getElem?_eq_none_iff.1 hx
    exact List.getElem?_eq_none_iff.2 (by omega)
  | some c => obtain ⟨v, h1, h2⟩ := h.get i c hx; exact ⟨v, h1, h2⟩

theorem cClear.ok (R : Rl P H0 r h H) {ats : Array TypeId} {t : TypeId} {xs : List CV} {vs : List Value} {h' : CH} {K : Value → Heap → Prop} (hc : cClear P ats.toList xs h = some h') (hv : VRs r xs vs) (hk : Out P H0 r h H (.tup []) h' K) :
    SemW P (Builtin.clear_ ats t ⟨vs⟩) H K := by
  obtain ⟨ats⟩ := ats
  change cClear P ats xs h = some h' at hc
  unfold cClear at hc
  split at hc
  · rename_i ty x
    simp only [VRs] at hv
    obtain ⟨v, _, rfl, hx, rfl⟩ := hv
    unfold Builtin.clear_
    split at hc
    · rename_i e hu
      show SemW P (underlying ty >>= _) H K
      refine (SemW.bind _ _ _ _).2 (semW_underlying hu ?_)
      split at hc
      · simp only [VR] at hx; subst hx; cases hc
        exact hk _ _ _ (Ex.refl _ _ _) R ⟨[], rfl, VRs.nil⟩
      · simp only [VR] at hx; obtain ⟨a, c, rfl⟩ := hx; cases hc
        cases a <;> exact hk _ _ _ (Ex.refl _ _ _) R ⟨[], rfl, VRs.nil⟩
      · rename_i k o n cap ex
        simp only [VR] at hx
        obtain ⟨b, hb, rfl⟩ := hx
        split at hc
        · rename_i z hz
          obtain ⟨zs, hzs, hvz⟩ := zeroC.ok hz r
          split at hc
          · rename_i hn
            have hn := beq_true hn
            subst hn
            cases hc
            exact hk _ _ _ (Ex.refl _ _ _) R ⟨[], rfl, VRs.nil⟩
          · rename_i hn
            have hn := beq_false hn
            split at hc
            · rename_i hpl
              obtain ⟨n, rfl⟩ : ∃ m, n = m + 1 := ⟨n - 1, by omega⟩
              have hvr := repC.ok hvz (n + 1)
              obtain ⟨c, T, h1, h2, h3⟩ := R.wrs hc hb hvr
              show SemW P (zeroValue e >>= fun z => storeCells ⟨b.blk, b.base + o, none⟩ (Builtin.zeroCells z.cells (n + 1)).toList >>= fun _ => pure (.tuple #[])) H K
              refine (SemW.bind _ _ _ _).2 (semW_zero hzs fun zv hzv => ?_)
              refine (SemW.bind _ _ _ _).2 ?_
              rw [zeroCells_eq, hzv]
              refine semW_storeCells _ 0 H c h1 ?_ (by omega) fun H' e1 e2 => ?_
              · intro v hm
                have : ∀ n, v ∈ repL n zs → plainC v = true := by
                  intro n
                  induction n with
                  | zero => intro h; cases h
                  | succ n ih =>
                    intro h
                    rcases List.mem_append.1 h with h | h
                    · exact plainsB.ok hpl hvz v h
                    · exact ih h
                exact this _ hm
              · obtain ⟨R', E'⟩ := h3 H' e1 e2
                exact hk _ _ _ E' R' ⟨[], rfl, VRs.nil⟩
            · cases hc
        · cases hc
      · cases hc
    · cases hc
  · cases hc

theorem cCall.ok {call : Calls} (hC : CallOk P call) (R : Rl P H0 r h H) {o : Oper} {c : Call} {e : CE} {ρ : Env} (hE : ER r e ρ) {y : CV} {h' : CH} {K : Value → Heap → Prop} (hc : cCall call P o c e h = some (y, h')) (hk : Out P H0 r h H y h' K) : CallW P o c ρ H K := by
  unfold cCall at hc
  unfold CallW
  split at hc
  · cases hc
  · rename_i xs hxs
    have hv := hE.cevs hxs
    split at hc
    · rename_i f hcal
      simp only [hcal]
      split at hc
      · rename_i hy
        obtain ⟨h1, h2⟩ := okTy.out hc hk
        unfold CallF
        have := CalW.mono (Ret.out h2) (callG.ok hC h1 R hv)
        unfold CalW at this
        rw [hy] at this
        simp only at this
        cases hx : isExt P f with
        | true => rw [hx] at this; exact this
        | false => rw [hx] at this; exact this
      · cases hc
    · rename_i t hcal
      simp only [hcal]
      split at hc
      · rename_i f caps hg
        split at hc
        · rename_i hy
          obtain ⟨h1, h2⟩ := okTy.out hc hk
          have ht := hE t
          rw [hg] at ht
          simp only [VR] at ht
          obtain ⟨cvs, ht, hcv⟩ := ht
          rw [ht]
          have := callG.ok hC h1 R (VRs.append hv hcv)
          simp only [Bool.and_eq_true, Bool.not_eq_true'] at hy
          unfold CalW at this
          rw [hy.1, hy.2] at this
          exact this.mono (Ret.out h2)
        · cases hc
      · rename_i f first hg
        split at hc
        · rename_i hy
          obtain ⟨h1, h2⟩ := okTy.out hc hk
          have ht := hE t
          rw [hg] at ht
          simp only [VR] at ht
          obtain ⟨u, us, ht, hcv⟩ := ht
          rw [ht]
          have := callG.ok hC h1 R (VRs.append hcv hv)
          simp only [Bool.and_eq_true, Bool.not_eq_true'] at hy
          unfold CalW at this
          rw [hy.1, hy.2] at this
          have e : (u :: us) ++ (c.args.toList.map (ev ρ) ++ []) = (u :: us) ++ c.args.toList.map (ev ρ) := by rw [List.append_nil]
          show FnW P f ⟨(u :: us) ++ (c.args.toList.map (ev ρ) ++ [])⟩ H (ofTy P o.type K)
          rw [e]
          exact this.mono (Ret.out h2)
        · cases hc
      · rename_i k hg
        obtain ⟨h1, h2⟩ := okTy.out hc hk
        have ht := hE t
        rw [hg] at ht
        simp only [VR] at ht
        obtain ⟨b, hb, ht⟩ := ht
        rw [ht]
        have := callG.ok hC h1 R hv
        unfold CalW at this
        have hlt : Nat.blt (yB + k) yB = false := by
          cases hh : Nat.blt (yB + k) yB with
          | false => rfl
          | true => have : yB + k < yB := by simpa using hh
                    omega
        rw [hlt] at this
        obtain ⟨b', hb', hy⟩ := this
        rw [Nat.add_sub_cancel_left, hb] at hb'
        cases hb'
        exact hy.mono (Ret.out h2)
      · cases hc
    · rename_i hcal
      simp only [hcal]
      split at hc
      · rename_i hm
        rw [hm]
        obtain ⟨h1, h2⟩ := keepH.out R hc hk
        exact cLen.ok h1 (hv.at0 0) h2
      · rename_i hm
        rw [hm]
        obtain ⟨h3, h4⟩ := okTy.out hc hk
        obtain ⟨h1, h2⟩ := keepH.out R h3 h4
        exact cMapLen.ok R h1 hv h2
    · rename_i hcal
      simp only [hcal]
      obtain ⟨h1, h2⟩ := keepH.out R hc hk
      exact cCap.ok h1 (hv.at0 0) h2
    · rename_i hcal
      simp only [hcal]
      obtain ⟨h1, h2⟩ := okTy.out hc hk
      exact cApp.ok R h1 hv h2
    · rename_i hcal
      simp only [hcal]
      obtain ⟨h1, h2⟩ := okTy.out hc hk
      exact cCopy.ok R h1 hv h2
    · rename_i hcal
      simp only [hcal]
      obtain ⟨h1, h2⟩ := keepH.out R hc hk
      exact cMinMax.ok h1 hv h2
    · rename_i hcal
      simp only [hcal]
      obtain ⟨h1, h2⟩ := keepH.out R hc hk
      exact cMinMax.ok h1 hv h2
    · rename_i hcal
      simp only [hcal]
      split at hc
      · rename_i h1 hcl
        cases hc
        exact cClear.ok R hcl hv hk
      · cases hc
    · rename_i hcal
      simp only [hcal]
      split at hc
      · rename_i h1 hcl
        cases hc
        exact cDelete.ok R hcl hv hk
      · cases hc
    · cases hc

theorem cOp.ok {call : Calls} (hC : CallOk P call) (R : Rl P H0 r h H) {o : Oper} {e : CE} {ρ : Env} (hE : ER r e ρ) {y : CV} {h' : CH} {K : Value → Heap → Prop} (hc : cOp call P o e h = some (y, h')) (hk : Out P H0 r h H y h' K) : OpW P o ρ H K := by
  unfold cOp at hc
  unfold OpW
  split at hc <;> rename_i ho <;> (try simp only [ho])
  · obtain ⟨h1, h2⟩ := keepH.out R hc hk
    exact h2 _ (hE.cev h1)
  · obtain ⟨h1, h2⟩ := keepH.out R hc hk
    exact h2 _ (hE.cev h1)
  · split at hc
    · rename_i t hx
      have := hE.cev hx
      simp only [VR] at this
      rw [this]
      obtain ⟨h1, h2⟩ := keepH.out R hc hk
      cases t
      · exact h2 _ (hE.cev h1)
      · exact h2 _ (hE.cev h1)
    · cases hc
  · split at hc
    · rename_i x hx
      obtain ⟨h1, h2⟩ := keepH.out R hc hk
      exact cLoad.ok R h1 (hE.cev hx) h2
    · cases hc
  · split at hc
    · rename_i x y' hx hy
      unfold storeH at hc
      split at hc
      · rename_i hs
        cases hc
        exact cStore.ok R hs (hE.cev hx) (hE.cev hy) hk
      · cases hc
    · cases hc
  · split at hc
    · rename_i x hx
      obtain ⟨h1, h2⟩ := keepH.out R hc hk
      have := hE.cev hx
      unfold ptrOf at h1
      split at h1
      · cases h1
        have h3 := this
        simp only [VR] at this
        obtain ⟨b, hb, hv⟩ := this
        rw [hv] at h3 ⊢
        exact h2 _ h3
      · cases h1
    · cases hc
  · split at hc
    · rename_i x i hx hi
      obtain ⟨h1, h2⟩ := keepH.out R hc hk
      exact cIdxAddr.ok h1 (hE.cev hx) (hE.cev hi) h2
    · cases hc
  · split at hc
    · rename_i x i hx hi
      obtain ⟨h1, h2⟩ := keepH.out R hc hk
      exact cIdx.ok h1 (hE.cev hx) (hE.cev hi) h2
    · cases hc
  · split at hc
    · rename_i x lo hi mx hx hlo hhi hmx
      obtain ⟨h1, h2⟩ := keepH.out R hc hk
      exact cSlice.ok h1 (hE.cev hx) (cOpt.ok hE hlo) (cOpt.ok hE hhi) (cOpt.ok hE hmx) h2
    · cases hc
  · split at hc
    · rename_i ps hps
      split at hc
      · rename_i l hl
        cases hc
        obtain ⟨vs, h1, h2⟩ := cBuild.ok hl (cParts.ok hE hps)
        simp only [h1]
        exact hk _ _ _ (Ex.refl _ _ _) R ⟨vs, rfl, h2⟩
      · cases hc
    · cases hc
  · split at hc
    · rename_i el ps hu hps
      split at hc
      · rename_i l hl
        cases hc
        obtain ⟨vs, h1, h2⟩ := cRow.ok hl (cParts.ok hE hps)
        simp only [hu, h1]
        exact R.newSl h2 hk
      · cases hc
    · cases hc
  · split at hc
    · rename_i l hl
      cases hc
      obtain ⟨vs, h1, h2⟩ := zeroC.ok hl r
      simp only [h1]
      exact R.newPtr h2 hk
    · cases hc
  · split at hc
    · rename_i x hx
      cases hc
      exact R.newPtr (cellsC.ok (hE.cev hx)) hk
    · cases hc
  · split at hc
    · rename_i x y' hx hy
      obtain ⟨h1, h2⟩ := keepH.out R hc hk
      exact cBinL.ok h1 (hE.cev hx) (hE.cev hy) h2
    · cases hc
  · split at hc
    · rename_i x hx
      obtain ⟨h1, h2⟩ := keepH.out R hc hk
      exact cConv.ok R h1 (hE.cev hx) h2
    · cases hc
  · split at hc
    · rename_i x y' hx hy
      obtain ⟨h1, h2⟩ := okTy.out hc hk
      exact cMake.ok R h1 (hE.cev hx) (hE.cev hy) h2
    · cases hc
  · split at hc
    · rename_i x hx
      obtain ⟨h1, h2⟩ := keepH.out R hc hk
      exact cFieldAddr.ok h1 (hE.cev hx) h2
    · cases hc
  · split at hc
    · rename_i x hx
      obtain ⟨h1, h2⟩ := keepH.out R hc hk
      exact cField.ok h1 (hE.cev hx) h2
    · cases hc
  · split at hc
    · rename_i vs hx
      obtain ⟨h1, h2⟩ := keepH.out R hc hk
      have := hE.cev hx
      simp only [VR] at this
      obtain ⟨us, hu, hus⟩ := this
      obtain ⟨w, hw, e⟩ := hus.get _ _ h1
      rw [hu]
      simp only [hw]
      exact h2 w e
    · cases hc
  · exact cCall.ok hC R hE hc hk
  · split at hc
    · rename_i x hx
      obtain ⟨h1, h2⟩ := keepH.out R hc hk
      exact cUn.ok h1 (hE.cev hx) h2
    · cases hc
  · split at hc
    · rename_i cs hcs
      cases hc
      unfold MkFnW
      simp only [ho]
      exact hk _ _ _ (Ex.refl _ _ _) R ⟨_, rfl, hE.cevs hcs⟩
    · cases hc
  · split at hc
    · rename_i cs hcs
      cases hc
      unfold MkFnW
      simp only [ho]
      have hvs := hE.cevs hcs
      exact hk _ _ _ (Ex.refl _ _ _) R ⟨_, _, rfl, hvs⟩
    · cases hc
  · split at hc
    · rename_i x i hx hi
      obtain ⟨h3, h4⟩ := okTy.out hc hk
      obtain ⟨h1, h2⟩ := keepH.out R h3 h4
      exact cLookup.ok R h1 (hE.cev hx) (hE.cev hi) h2
    · cases hc
  · cases hc
    exact cMkMap R hk (t := 0)
  · split at hc
    · rename_i x i y' hx hi hy
      unfold storeH at hc
      split at hc
      · rename_i hs
        cases hc
        unfold execOp
        simp only [ho]
        exact (SemW.bind _ _ _ _).2 (cUpdate.ok R hs (hE.cev hx) (hE.cev hi) (hE.cev hy) (fun r' H' v E R' hv => by have := hk r' H' undef E R' vr_und; exact this))
      · cases hc
    · cases hc
  · split at hc
    · rename_i x i hx hi
      obtain ⟨a, n, rfl⟩ := cMapEntry.shape hc
      refine cMapEntry.ok R hc (hE.cev hx) (hE.cev hi) fun r' H' v E R' hv => ?_
      obtain ⟨vs, rfl, hvs⟩ := hv
      obtain ⟨z, vs, rfl, hz, hvs⟩ := hvs
      obtain ⟨w, vs, rfl, hw, hvs⟩ := hvs
      cases hw
      cases hvs
      exact ⟨_, _, rfl, hk _ _ _ E R' ⟨_, rfl, VRs.cons hz (VRs.cons rfl VRs.nil)⟩⟩
    · cases hc
  · split at hc
    · rename_i x s y' hx hs' hy
      unfold storeH at hc
      split at hc
      · rename_i hs
        cases hc
        unfold execOp
        simp only [ho]
        exact (SemW.bind _ _ _ _).2 (cEntryStore.ok R hs (hE.cev hx) (hE.cev hs') (hE.cev hy) (fun r' H' v E R' hv => by have := hk r' H' undef E R' vr_und; exact this))
      · cases hc
    · cases hc
  · split at hc
    · cases hc
    · rename_i t x d y' hd hu hy
      cases hc
      unfold execOp
      simp only [ho]
      refine (SemW.bind _ _ _ _).2 ?_
      unfold Instr.makeInterface
      refine (SemW.bind _ _ _ _).2 (semW_underlying hu ?_)
      have := hk _ _ _ (Ex.refl _ _ _) R ⟨_, rfl, hE.cev hy⟩
      cases d <;> first | exact this | exact (hd _ rfl).elim
    · cases hc
  · split at hc
    · rename_i x hx
      obtain ⟨h1, h2⟩ := keepH.out R hc hk
      exact cSta.ok h1 (hE.cev hx) h2
    · cases hc
  · split at hc
    · rename_i x hx
      unfold execOp
      simp only [ho]
      exact (SemW.bind _ _ _ _).2 (cRange.ok R hc (hE.cev hx) hk)
    · cases hc
  · split at hc
    · rename_i x hx
      obtain ⟨h1, h2⟩ := keepH.out R hc hk
      exact cNext.ok R h1 (hE.cev hx) h2
    · cases hc
  · cases hc
end
end Go.Ev
