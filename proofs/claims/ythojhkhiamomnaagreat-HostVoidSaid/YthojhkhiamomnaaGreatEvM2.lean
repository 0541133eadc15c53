/-
  Maps, written.
-/
import Derived.Test.YthojhkhiamomnaaGreatEvM
noncomputable section
set_option linter.all false
namespace Go.Ev
variable [Sym]
open Go.Sh

/-- A key as a value, if it names no memory. -/
def keyV : CV → Option Value
  | .agg cs => (match toVs cs with
    | some vs => some (.agg ⟨vs⟩)
    | none => none)
  | x => toV x
theorem keyV.ok {r : List RB} {x : CV} {v w : Value} (h : keyV x = some w) (hv : VR r x v) : v = w := by
  unfold keyV at h
  split at h
  · split at h
    · rename_i vs hvs
      cases h
      simp only [VR] at hv
      obtain ⟨us, rfl, hv⟩ := hv
      rw [toVs.ok hvs hv]
    · cases h
  · exact toV.ok h hv
def nth (es : List (CV × CV × Nat)) (i : Nat) : Option (CV × CV × Nat) := es[i]?
/-- Whether the key that is there, and the new one, have the same bits. -/
def stays (es : List (CV × CV × Nat)) (i : Nat) (x : CV) : Bool := match nth es i with
  | some (k, _, _) => (match keyV k, keyV x with
    | some a, some b => Instr.sameBits 10000 a b
    | _, _ => false)
  | none => false
def setKV (x y : CV) : List (CV × CV × Nat) → Nat → List (CV × CV × Nat)
  | [], _ => []
  | (_, _, b) :: es, 0 => (x, y, b) :: es
  | e :: es, i + 1 => e :: setKV x y es i
def setK (x : CV) : List (CV × CV × Nat) → Nat → List (CV × CV × Nat)
  | [], _ => []
  | (_, v, b) :: es, 0 => (x, v, b) :: es
  | e :: es, i + 1 => e :: setK x es i
section
variable {P : Program} {H0 : Heap} {r : List RB} {h : CH} {H : Heap}
theorem MR.get : ∀ {es : List (CV × CV × Nat)} {ms : List MapEntry} {i : Nat} {k v : CV} {b : Nat}, MR r es ms → nth es i = some (k, v, b) → ∃ m, ms[i]? = some m ∧ VR r k m.key ∧ VR r v m.val ∧ m.born = b
  | [], _, i, k, v, b, h, hn => by simp [nth] at hn
  | (k0, v0, b0) :: es, _, i, k, v, b, h, hn => by
    simp only [MR] at h
    obtain ⟨m, us, rfl, a1, a2, a3, h⟩ := h
    cases i with
    | zero => simp only [nth, List.getElem?_cons_zero, Option.some.injEq] at hn; cases hn; exact ⟨m, rfl, a1, a2, a3⟩
    | succ i =>
      have hn' : nth es i = some (k, v, b) := by simpa [nth] using hn
      obtain ⟨m', e1, e2⟩ := MR.get h hn'
      exact ⟨m', e1, e2⟩
theorem MR.setKV {x y : CV} {u w : Value} (hx : VR r x u) (hy : VR r y w) : ∀ {es : List (CV × CV × Nat)} {ms : List MapEntry} {i : Nat}, MR r es ms → MR r (setKV x y es i) (ms.modify i fun e => { e with key := u, val := w })
  | [], _, i, h => by simp only [MR] at h; subst h; simp [Ev.setKV, MR]
  | (k, v, b) :: es, _, i, h => by
    simp only [MR] at h
    obtain ⟨m, us, rfl, a1, a2, a3, h⟩ := h
    cases i with
    | zero => exact ⟨_, us, rfl, hx, hy, a3, h⟩
    | succ i => exact ⟨m, _, rfl, a1, a2, a3, MR.setKV hx hy h⟩
theorem MR.setK {x : CV} {u : Value} (hx : VR r x u) : ∀ {es : List (CV × CV × Nat)} {ms : List MapEntry} {i : Nat}, MR r es ms → MR r (setK x es i) (ms.modify i fun e => { e with key := u })
  | [], _, i, h => by simp only [MR] at h; subst h; simp [Ev.setK, MR]
  | (k, v, b) :: es, _, i, h => by
    simp only [MR] at h
    obtain ⟨m, us, rfl, a1, a2, a3, h⟩ := h
    cases i with
    | zero => exact ⟨_, us, rfl, hx, a2, a3, h⟩
    | succ i => exact ⟨m, _, rfl, a1, a2, a3, MR.setK hx h⟩
theorem stays_ok {es : List (CV × CV × Nat)} {ms : List MapEntry} {i : Nat} {x : CV} {u : Value} (hs : stays es i x = true) (hm : MR r es ms) (hx : VR r x u) {K : Value → Heap → Prop} (hk : K u H) :
    SemW P (Instr.keyThatStays ((((⟨ms⟩ : Array MapEntry)[i]?).map (·.key)).getD u) u) H K := by
  unfold stays at hs
  split at hs
  · rename_i k v b hn
    split at hs
    · rename_i a c ha hc
      obtain ⟨m, h1, h2, _, _⟩ := hm.get hn
      have e1 : ((((⟨ms⟩ : Array MapEntry)[i]?).map (·.key)).getD u) = a := by
        rw [List.getElem?_toArray, h1]
        exact keyV.ok ha h2
      rw [e1, keyV.ok hc hx]
      unfold Instr.keyThatStays
      rw [if_pos hs]
      rw [keyV.ok hc hx] at hk
      exact hk
    · cases hs
  · cases hs

def mapAt (h : CH) : CV → Option (Nat × List (CV × CV × Nat) × Nat)
  | .mp k => (match h.t.get k with
    | some (.map es ck) => some (k, es, ck)
    | _ => none)
  | _ => none
theorem mapAt.ok (R : Rl P H0 r h H) {x : CV} {k ck : Nat} {es : List (CV × CV × Nat)} {v : Value} (hc : mapAt h x = some (k, es, ck)) (hv : VR r x v) : ∃ b ms, r[k]? = some b ∧ v = .map (some b.blk) ∧ h.t.get k = some (.map es ck) ∧ H b.blk = some (.map ⟨ms⟩ ck) ∧ MR r es ms := by
  unfold mapAt at hc
  split at hc
  · simp only [VR] at hv
    obtain ⟨b, hb, rfl⟩ := hv
    split at hc
    · rename_i hk
      cases hc
      obtain ⟨ms, h1, h2⟩ := R.blk _ b _ hb hk
      exact ⟨b, ms, hb, rfl, hk, h1, h2⟩
    · cases hc
  · cases hc

def cUpdate (P : Program) (t : TypeId) (x i y : CV) (h : CH) : Option CH := match P.underlying t with
  | some (.map kt _) => (match mapAt h x, keyTy P kt && keyOk P kt i with
    | some (k, es, ck), true => (match cFind P kt i es 0 with
      | some (some (j, _)) => (match stays es j i with
        | true => some (h.wr k (.map (setKV i y es j) ck))
        | false => none)
      | some none => some (h.wr k (.map (es ++ [(i, y, ck)]) (ck + 1)))
      | none => none)
    | _, _ => none)
  | _ => none
theorem cUpdate.ok (R : Rl P H0 r h H) {t : TypeId} {x i y : CV} {v u w : Value} {h' : CH} {K : Unit → Heap → Prop} (hc : cUpdate P t x i y h = some h') (hv : VR r x v) (hu : VR r i u) (hw : VR r y w) (hk : Out P H0 r h H und h' fun _ H' => K () H') : SemW P (Instr.mapUpdate t v u w) H K := by
  unfold cUpdate at hc
  split at hc
  · rename_i kt el hty
    split at hc
    · rename_i k es ck hm hkk
      simp only [Bool.and_eq_true] at hkk
      obtain ⟨b, ms, hb, rfl, hkm, hH, hms⟩ := mapAt.ok R hm hv
      unfold Instr.mapUpdate
      refine (SemW.bind _ _ _ _).2 (semW_underlying hty ?_)
      refine (SemW.bind _ _ _ _).2 ?_
      refine ⟨_, hH, rfl, ?_⟩
      refine (SemW.bind _ _ _ _).2 (checkKey_ok hkk.1 hkk.2 hu ?_)
      split at hc
      · rename_i j v' hf
        split at hc
        · rename_i hst
          cases hc
          refine (SemW.bind _ _ _ _).2 (findKey_ok hkk.1 hu hf hms fun z hz => ?_)
          obtain ⟨v2, rfl, hv2⟩ := hz
          refine (SemW.bind _ _ _ _).2 (stays_ok hst hms hu ?_)
          obtain ⟨R', E'⟩ := R.setMap (ck' := ck) hb hkm (hms.setKV (i := j) hu hw)
          refine ⟨⟨_, hH, rfl, rfl⟩, ?_⟩
          have e : (⟨ms⟩ : Array MapEntry).modify j (fun e => { e with key := u, val := w }) = ⟨ms.modify j fun e => { e with key := u, val := w }⟩ := by
            apply Array.ext'; simp
          rw [e]
          exact hk _ _ _ E' R' vr_und
        · cases hc
      · rename_i hf
        cases hc
        refine (SemW.bind _ _ _ _).2 (findKey_ok hkk.1 hu hf hms fun z hz => ?_)
        cases hz
        obtain ⟨R', E'⟩ := R.setMap (ck' := ck + 1) hb hkm (MR.push (m := { key := u, val := w, born := ck }) hms hu hw)
        refine ⟨⟨_, hH, rfl, rfl⟩, ?_⟩
        have e : (⟨ms⟩ : Array MapEntry).push { key := u, val := w, born := ck } = ⟨ms ++ [{ key := u, val := w, born := ck }]⟩ := by
          apply Array.ext'; simp
        rw [e]
        exact hk _ _ _ E' R' vr_und
      · cases hc
    · cases hc
  · cases hc

def cMapEntry (P : Program) (t : TypeId) (x i : CV) (h : CH) : Option (CV × CH) := match P.underlying t with
  | some (.map kt el) => (match mapAt h x, keyTy P kt && keyOk P kt i with
    | some (k, es, ck), true => (match cFind P kt i es 0 with
      | some (some (j, v)) => (match stays es j i, nth es j with
        | true, some (_, _, b) => some (.tup [v, .int .i64 b], h.wr k (.map (setK i es j) ck))
        | _, _ => none)
      | some none => (match P.info? el with
        | some it => (match it.zero with
          | some z => some (.tup [cvOf z, .int .i64 ck], h.wr k (.map (es ++ [(i, cvOf z, ck)]) (ck + 1)))
          | none => none)
        | none => none)
      | none => none)
    | _, _ => none)
  | _ => none
theorem cMapEntry.ok (R : Rl P H0 r h H) {t : TypeId} {x i y : CV} {v u : Value} {h' : CH} {K : Value → Heap → Prop} (hc : cMapEntry P t x i h = some (y, h')) (hv : VR r x v) (hu : VR r i u) (hk : Out P H0 r h H y h' K) : SemW P (Instr.mapEntry t v u) H K := by
  unfold cMapEntry at hc
  split at hc
  · rename_i kt el hty
    split at hc
    · rename_i k es ck hm hkk
      simp only [Bool.and_eq_true] at hkk
      obtain ⟨b, ms, hb, rfl, hkm, hH, hms⟩ := mapAt.ok R hm hv
      unfold Instr.mapEntry
      refine (SemW.bind _ _ _ _).2 (semW_underlying hty ?_)
      refine (SemW.bind _ _ _ _).2 ?_
      refine ⟨_, hH, rfl, ?_⟩
      refine (SemW.bind _ _ _ _).2 (checkKey_ok hkk.1 hkk.2 hu ?_)
      split at hc
      · rename_i j v' hf
        split at hc
        · rename_i k0 v0 bn hst hn
          cases hc
          refine (SemW.bind _ _ _ _).2 (findKey_ok hkk.1 hu hf hms fun z hz => ?_)
          obtain ⟨v2, rfl, hv2⟩ := hz
          refine (SemW.bind _ _ _ _).2 (stays_ok hst hms hu ?_)
          obtain ⟨R', E'⟩ := R.setMap (ck' := ck) hb hkm (hms.setK (i := j) hu)
          refine (SemW.bind _ _ _ _).2 ⟨⟨_, hH, rfl, rfl⟩, ?_⟩
          have e : (⟨ms⟩ : Array MapEntry).modify j (fun e => { e with key := u }) = ⟨ms.modify j fun e => { e with key := u }⟩ := by
            apply Array.ext'; simp
          rw [e]
          obtain ⟨m, q1, q2, q3, q4⟩ := hms.get hn
          have e2 : ((((⟨ms⟩ : Array MapEntry)[j]?).map (fun x => (x.born : Int))).getD 0) = (bn : Int) := by
            rw [List.getElem?_toArray, q1, ← q4]; rfl
          refine hk _ _ _ E' R' ⟨_, rfl, VRs.cons hv2 (VRs.cons ?_ VRs.nil)⟩
          rw [e2]; rfl
        · cases hc
      · rename_i hf
        split at hc
        · rename_i it hi
          split at hc
          · rename_i z hz
            cases hc
            refine (SemW.bind _ _ _ _).2 (findKey_ok hkk.1 hu hf hms fun w hw => ?_)
            cases hw
            refine (SemW.bind _ _ _ _).2 (semW_zeroV hi hz ?_)
            obtain ⟨R', E'⟩ := R.setMap (ck' := ck + 1) hb hkm (MR.push (m := { key := u, val := z, born := ck }) hms hu (vr_of r z))
            refine (SemW.bind _ _ _ _).2 ⟨⟨_, hH, rfl, rfl⟩, ?_⟩
            have e : (⟨ms⟩ : Array MapEntry).push { key := u, val := z, born := ck } = ⟨ms ++ [{ key := u, val := z, born := ck }]⟩ := by
              apply Array.ext'; simp
            rw [e]
            exact hk _ _ _ E' R' ⟨_, rfl, VRs.cons (vr_of _ z) (VRs.cons rfl VRs.nil)⟩
          · cases hc
        · cases hc
      · cases hc
    · cases hc
  · cases hc

theorem cMapEntry.shape {P : Program} {t : TypeId} {x i y : CV} {h h' : CH} (hc : cMapEntry P t x i h = some (y, h')) : ∃ (a : CV) (n : Int), y = .tup [a, .int .i64 n] := by
  unfold cMapEntry at hc
  repeat' split at hc
  all_goals first | (cases hc; done) | (cases hc; exact ⟨_, _, rfl⟩)

/-- Which entry was born then. -/
def bornAt (n : Int) : List (CV × CV × Nat) → Nat → Option Nat
  | [], _ => none
  | (_, _, b) :: es, i => match decide ((b : Int) = n) with
    | true => some i
    | false => bornAt n es (i + 1)
theorem bornAt.ok {n : Int} : ∀ {es : List (CV × CV × Nat)} {ms : List MapEntry} {i j : Nat}, MR r es ms → bornAt n es i = some j → ∃ d, j = i + d ∧ ms.findIdx? (fun e => (e.born : Int) == n) = some d
  | [], _, i, j, h, hb => by cases hb
  | (k, v, b) :: es, _, i, j, h, hb => by
    simp only [MR] at h
    obtain ⟨m, us, rfl, a1, a2, a3, h⟩ := h
    simp only [bornAt] at hb
    split at hb
    · rename_i hd
      cases hb
      have := of_decide_eq_true hd
      exact ⟨0, rfl, by rw [List.findIdx?_cons, a3, this]; simp⟩
    · rename_i hd
      have hne := of_decide_eq_false hd
      obtain ⟨d, e1, e2⟩ := bornAt.ok h hb
      refine ⟨d + 1, by omega, ?_⟩
      rw [List.findIdx?_cons, a3, if_neg (by simpa using hne), e2]; rfl
def cEntryStore (x s y : CV) (h : CH) : Option CH := match mapAt h x, s with
  | some (k, es, ck), .int _ n => (match bornAt n es 0 with
    | some j => some (h.wr k (.map (setV y es j) ck))
    | none => none)
  | _, _ => none
theorem cEntryStore.ok (R : Rl P H0 r h H) {t : TypeId} {x s y : CV} {v u w : Value} {h' : CH} {K : Unit → Heap → Prop} (hc : cEntryStore x s y h = some h') (hv : VR r x v) (hu : VR r s u) (hw : VR r y w) (hk : Out P H0 r h H und h' fun _ H' => K () H') : SemW P (Instr.entryStore t v u w) H K := by
  unfold cEntryStore at hc
  split at hc
  · rename_i k es ck kk n hm
    obtain ⟨b, ms, hb, rfl, hkm, hH, hms⟩ := mapAt.ok R hm hv
    simp only [VR] at hu
    subst hu
    split at hc
    · rename_i j hj
      cases hc
      obtain ⟨d, e1, e2⟩ := bornAt.ok hms hj
      rw [Nat.zero_add] at e1
      subst e1
      unfold Instr.entryStore
      refine (SemW.bind _ _ _ _).2 ?_
      refine ⟨_, hH, rfl, ?_⟩
      show SemW P (match (⟨ms⟩ : Array MapEntry).findIdx? (fun e => (e.born : Int) == n) with
        | some i => setObj b.blk (.map ((⟨ms⟩ : Array MapEntry).modify i fun e => { e with val := w }) ck)
        | none => unsupported (.noEntry "instr/MapEntry.the entry is gone")) H K
      have e3 : (⟨ms⟩ : Array MapEntry).findIdx? (fun e => (e.born : Int) == n) = some j := by
        rw [← e2]; simp
      rw [e3]
      obtain ⟨R', E'⟩ := R.setMap (ck' := ck) hb hkm (hms.setV (i := j) hw)
      refine ⟨⟨_, hH, rfl, rfl⟩, ?_⟩
      have e : (⟨ms⟩ : Array MapEntry).modify j (fun e => { e with val := w }) = ⟨ms.modify j fun e => { e with val := w }⟩ := by
        apply Array.ext'; simp
      rw [e]
      exact hk _ _ _ E' R' vr_und
    · cases hc
  · cases hc

def cDelete (P : Program) (ats : List TypeId) (xs : List CV) (h : CH) : Option CH := match ats, xs with
  | t :: _, [x, i] => (match P.underlying t with
    | some (.map kt _) => (match mapAt h x, keyTy P kt && keyOk P kt i with
      | some (k, es, ck), true => (match cFind P kt i es 0 with
        | some (some (j, _)) => some (h.wr k (.map (eraseE es j) ck))
        | some none => some (h.wr k (.map es ck))
        | none => none)
      | _, _ => none)
    | _ => none)
  | _, _ => none
theorem cDelete.ok (R : Rl P H0 r h H) {ats : Array TypeId} {t : TypeId} {xs : List CV} {vs : List Value} {h' : CH} {K : Value → Heap → Prop} (hc : cDelete P ats.toList xs h = some h') (hv : VRs r xs vs) (hk : Out P H0 r h H (.tup []) h' K) :
    SemW P (Builtin.delete_ ats t ⟨vs⟩) H K := by
  obtain ⟨ats⟩ := ats
  change cDelete P ats xs h = some h' at hc
  unfold cDelete at hc
  split at hc
  · rename_i ty tys x i
    simp only [VRs] at hv
    obtain ⟨v, _, rfl, hx, u, _, rfl, hu, rfl⟩ := hv
    unfold Builtin.delete_
    split at hc
    · rename_i kt el hty
      split at hc
      · rename_i k es ck hm hkk
        simp only [Bool.and_eq_true] at hkk
        obtain ⟨b, ms, hb, rfl, hkm, hH, hms⟩ := mapAt.ok R hm hx
        show SemW P (underlying ty >>= _) H K
        refine (SemW.bind _ _ _ _).2 (semW_underlying hty ?_)
        show SemW P (getObj b.blk >>= _) H K
        refine (SemW.bind _ _ _ _).2 ⟨_, hH, rfl, ?_⟩
        show SemW P (Instr.checkKey (⟨ms⟩ : Array MapEntry).isEmpty 10000 kt u >>= _) H K
        refine (SemW.bind _ _ _ _).2 (checkKey_ok hkk.1 hkk.2 hu ?_)
        split at hc
        · rename_i j v' hf
          cases hc
          refine (SemW.bind _ _ _ _).2 (findKey_ok hkk.1 hu hf hms fun z hz => ?_)
          obtain ⟨v2, rfl, hv2⟩ := hz
          obtain ⟨R', E'⟩ := R.setMap (ck' := ck) hb hkm (hms.erase (i := j))
          refine (SemW.bind _ _ _ _).2 ⟨⟨_, hH, rfl, rfl⟩, ?_⟩
          have e : (⟨ms⟩ : Array MapEntry).eraseIdxIfInBounds j = ⟨ms.eraseIdx j⟩ := by
            apply Array.ext'; simp
          rw [e]
          exact hk _ _ _ E' R' ⟨[], rfl, VRs.nil⟩
        · rename_i hf
          cases hc
          refine (SemW.bind _ _ _ _).2 (findKey_ok hkk.1 hu hf hms fun z hz => ?_)
          cases hz
          obtain ⟨R', E'⟩ := R.setMap (ck' := ck) hb hkm hms
          refine (SemW.bind _ _ _ _).2 ⟨⟨_, hH, rfl, rfl⟩, ?_⟩
          exact hk _ _ _ E' R' ⟨[], rfl, VRs.nil⟩
        · cases hc
      · cases hc
    · cases hc
  · cases hc

def cMapLen (P : Program) (t : Option TypeId) (x : Option CV) (h : CH) : Option CV := match t, x with
  | some t, some x => (match P.underlying t, mapOf h x with
    | some (.map _ _), some es => some (.int .i64 es.length)
    | _, _ => none)
  | _, _ => none
theorem cMapLen.ok (R : Rl P H0 r h H) {ats : Array TypeId} {t : TypeId} {xs : List CV} {vs : List Value} {y : CV} {K : Value → Heap → Prop} (hc : cMapLen P ats.toList[0]? xs[0]? h = some y) (hv : VRs r xs vs) (hk : ∀ w, VR r y w → K w H) : SemW P (Builtin.len_ ats t ⟨vs⟩) H K := by
  unfold cMapLen at hc
  split at hc
  · rename_i t' x h1 h2
    obtain ⟨v, h3, hvx⟩ := hv.get 0 x h2
    split at hc
    · rename_i kt el es hty hm
      cases hc
      have h1' : ats[0]? = some t' := by simpa using h1
      have h2' : (⟨vs⟩ : Array Value)[0]? = some v := by simpa using h3
      unfold Builtin.len_
      rw [h1', h2']
      show SemW P (underlying t' >>= _) H K
      refine (SemW.bind _ _ _ _).2 (semW_underlying hty ?_)
      rcases mapOf.ok R hm hvx with ⟨rfl, rfl⟩ | ⟨b, ms, ck, rfl, hb, hms⟩
      · exact hk _ rfl
      · show SemW P (getObj b >>= _) H K
        refine (SemW.bind _ _ _ _).2 ⟨_, hb, rfl, ?_⟩
        have := hk (.int .i64 es.length) rfl
        rw [← hms.len] at this
        exact this
    · cases hc
  · cases hc
end
end Go.Ev
