/-
  Maps.
-/
import Derived.Test.YthojhkhiamomnaaGreatEv6
noncomputable section
set_option linter.all false
namespace Go.Ev
variable [Sym]
open Go.Sh

/-- Types of keys that need no looking into. -/
def flatKey (P : Program) (t : TypeId) : Bool := match P.underlying t with
  | some (.int _) => true
  | some .string => true
  | some .bool => true
  | _ => false
def keyTy (P : Program) (t : TypeId) : Bool := match P.underlying t with
  | some (.struct fs) => fs.toList.all fun f => flatKey P f.type
  | _ => flatKey P t
/-- Whether a key is of its type's shape: a struct's fields must be there. -/
def keyOk (P : Program) (t : TypeId) (x : CV) : Bool := match P.underlying t, x with
  | some (.struct fs), .agg cs => fs.toList.all fun f => Nat.blt f.offset cs.length
  | some (.struct _), _ => false
  | _, _ => true
/-- Whether two keys are one. -/
def keyEq (P : Program) (t : TypeId) (x y : CV) : Option Bool := match x, y with
  | .int k a, .int k' b => (match P.underlying t, decide (k = k') with
    | some (.int _), true => some (a == b)
    | _, _ => none)
  | .str a, .str b => (match P.underlying t with
    | some .string => some (strEq a b)
    | _ => none)
  | .agg xs, .agg ys => cEq P t (.agg xs) (.agg ys)
  | .bool a, .bool b => cEq P t (.bool a) (.bool b)
  | _, _ => none
theorem bstr_beq (a b : List UInt8) : (bstr a == bstr b) = strEq a b := by
  rw [strEq_eq]
  show (a.toArray == b.toArray) = (a == b)
  simp
theorem keyEq.ok {P : Program} {r : List RB} {t : TypeId} {x y : CV} {v u : Value} {b : Bool} (h : keyEq P t x y = some b) (hv : VR r x v) (hu : VR r y u) : eqPure P 6 t v u = some b := by
  unfold keyEq at h
  split at h
  · simp only [VR] at hv hu; subst hv hu
    split at h
    · rename_i ht hk; cases h; unfold eqPure; rw [ht]; simp only [hk]
    · cases h
  · simp only [VR] at hv hu; subst hv hu
    split at h
    · rename_i ht; cases h; unfold eqPure; rw [ht]; simp only [bstr_beq]
    · cases h
  · exact cEq.ok h hv hu
  · exact cEq.ok h hv hu
  · cases h
/-- The first entry with a key, from number i on. -/
def cFind (P : Program) (t : TypeId) (x : CV) : List (CV × CV × Nat) → Nat → Option (Option (Nat × CV))
  | [], _ => some none
  | (k, v, _) :: es, i => match keyEq P t x k with
    | some true => some (some (i, v))
    | some false => cFind P t x es (i + 1)
    | none => none

section
variable {P : Program}
theorem sameNow_eq {d : TypeDesc} {t : TypeId} {v u : Value} {b b' : Bool} (hd : P.underlying t = some d) (h1 : Instr.sameNow d v u = some b') (h2 : eqPure P 6 t v u = some b) : b' = b := by
  unfold eqPure at h2
  rw [hd] at h2
  unfold Instr.sameNow at h1
  split at h1
  · split at h1
    · rename_i hk
      cases h1
      simp only [decide_eq_true hk] at h2
      exact Option.some.inj h2
    · cases h1
  · cases h1; exact Option.some.inj h2
  · cases h1; exact Option.some.inj h2
  · cases h1
/-- What is found stands for what the machine found. -/
def FR (r : List RB) : Option (Nat × CV) → Option (Nat × Value) → Prop
  | none, w => w = none
  | some (i, c), w => ∃ v, w = some (i, v) ∧ VR r c v
theorem findNow_ok {d : TypeDesc} {t : TypeId} {r : List RB} {x : CV} {v : Value} (hd : P.underlying t = some d) (hv : VR r x v) : ∀ {es : List (CV × CV × Nat)} {ms : List MapEntry} {i : Nat} {res : Option (Nat × CV)}, cFind P t x es i = some res → MR r es ms →
    ∀ w, Instr.findNow d v ms i = some w → FR r res w
  | [], _, i, res, hc, hm, w, hw => by
    simp only [MR] at hm; subst hm
    cases hc; cases hw; rfl
  | (k, c, b) :: es, _, i, res, hc, hm, w, hw => by
    simp only [MR] at hm
    obtain ⟨m, us, rfl, h1, h2, h3, h4⟩ := hm
    simp only [cFind] at hc
    simp only [Instr.findNow] at hw
    split at hc
    · rename_i he
      cases hc
      split at hw
      · cases hw; exact ⟨_, rfl, h2⟩
      · rename_i hs; have := sameNow_eq hd hs (keyEq.ok he hv h1); cases this
      · cases hw
    · rename_i he
      split at hw
      · rename_i hs; have := sameNow_eq hd hs (keyEq.ok he hv h1); cases this
      · exact findNow_ok hd hv hc h4 w hw
      · cases hw
    · cases hc
theorem findAsking_ok {t : TypeId} {r : List RB} {x : CV} {v : Value} {H : Heap} {K : Option (Nat × Value) → Heap → Prop} (hv : VR r x v) : ∀ {es : List (CV × CV × Nat)} {ms : List MapEntry} {i : Nat} {res : Option (Nat × CV)}, cFind P t x es i = some res → MR r es ms →
    (∀ w, FR r res w → K w H) → SemW P (Instr.findAsking t v ms i) H K
  | [], _, i, res, hc, hm, hk => by
    simp only [MR] at hm; subst hm
    cases hc
    exact hk none rfl
  | (k, c, b) :: es, _, i, res, hc, hm, hk => by
    simp only [MR] at hm
    obtain ⟨m, us, rfl, h1, h2, h3, h4⟩ := hm
    simp only [cFind] at hc
    unfold Instr.findAsking
    refine (SemW.bind _ _ _ _).2 ?_
    split at hc
    · rename_i he
      cases hc
      refine semW_eqPure 6 Op.maxDepth (by unfold Op.maxDepth; omega) t v m.key true H _ (keyEq.ok he hv h1) ?_
      exact hk _ ⟨_, rfl, h2⟩
    · rename_i he
      refine semW_eqPure 6 Op.maxDepth (by unfold Op.maxDepth; omega) t v m.key false H _ (keyEq.ok he hv h1) ?_
      exact findAsking_ok hv hc h4 hk
    · cases hc
theorem findKey_ok {t : TypeId} {r : List RB} {x : CV} {v : Value} {H : Heap} {K : Option (Nat × Value) → Heap → Prop} (hkt : keyTy P t = true) (hv : VR r x v) {es : List (CV × CV × Nat)} {ms : List MapEntry} {res : Option (Nat × CV)} (hc : cFind P t x es 0 = some res) (hm : MR r es ms)
    (hk : ∀ w, FR r res w → K w H) : SemW P (Instr.findKey t v ms) H K := by
  unfold Instr.findKey
  cases hd : P.underlying t with
  | none => unfold keyTy flatKey at hkt; rw [hd] at hkt; cases hkt
  | some d =>
    refine (SemW.bind _ _ _ _).2 (semW_underlying hd ?_)
    split
    · rename_i w hw; exact hk _ (findNow_ok hd hv hc hm _ hw)
    · exact findAsking_ok hv hc hm hk

theorem checkFlat {t : TypeId} {v : Value} {H : Heap} {K : Unit → Heap → Prop} {emp : Bool} {n : Nat} (h : flatKey P t = true) (hk : K () H) : SemW P (Instr.checkKey emp (n + 1) t v) H K := by
  unfold flatKey at h
  unfold Instr.checkKey
  split at h
  · rename_i hd; exact (SemW.bind _ _ _ _).2 (semW_underlying hd hk)
  · rename_i hd; exact (SemW.bind _ _ _ _).2 (semW_underlying hd hk)
  · rename_i hd; exact (SemW.bind _ _ _ _).2 (semW_underlying hd hk)
  · cases h
theorem flat_isAgg {t : TypeId} (h : flatKey P t = true) : isAggB P t = some false := by
  unfold flatKey at h
  unfold isAggB
  split at h
  · rename_i hd; rw [hd]
  · rename_i hd; rw [hd]
  · rename_i hd; rw [hd]
  · cases h
theorem checkFields {emp : Bool} {n : Nat} {cs : Array Value} {H : Heap} : ∀ {fs : List Field} {K : PUnit → Heap → Prop}, (fs.all fun f => flatKey P f.type) = true → (fs.all fun f => Nat.blt f.offset cs.size) = true → K () H →
    SemW P (forIn fs PUnit.unit fun f _ => do
      if f.name ≠ "_" then Instr.checkKey emp (n + 1) f.type (← part f.type cs f.offset)
      pure (ForInStep.yield PUnit.unit)) H K
  | [], K, _, _, hk => hk
  | f :: fs, K, h1, h2, hk => by
    simp only [List.all_cons, Bool.and_eq_true] at h1 h2
    rw [List.forIn_cons]
    refine (SemW.bind _ _ _ _).2 ?_
    have rest := checkFields (emp := emp) (n := n) (cs := cs) (H := H) (K := K) h1.2 h2.2 hk
    by_cases hn : f.name ≠ "_"
    · rw [if_pos hn]
      refine (SemW.bind _ _ _ _).2 ?_
      have hlt : f.offset < cs.size := by simpa using h2.1
      refine semW_part (.inr ⟨cs[f.offset], flat_isAgg h1.1, by rw [Array.getElem?_toList, Array.getElem?_eq_getElem hlt], ?_⟩)
      exact (SemW.bind _ _ _ _).2 (checkFlat h1.1 rest)
    · rw [if_neg hn]
      exact rest
theorem checkKey_ok {t : TypeId} {x : CV} {r : List RB} {v : Value} {H : Heap} {K : Unit → Heap → Prop} {emp : Bool} (hkt : keyTy P t = true) (hko : keyOk P t x = true) (hv : VR r x v) (hk : K () H) : SemW P (Instr.checkKey emp 10000 t v) H K := by
  unfold keyTy at hkt
  unfold keyOk at hko
  split at hkt
  · rename_i fs hd
    rw [hd] at hko
    split at hko
    · rename_i fs' cs hfs
      cases hfs
      simp only [VR] at hv
      obtain ⟨vs, rfl, hv⟩ := hv
      unfold Instr.checkKey
      refine (SemW.bind _ _ _ _).2 (semW_underlying hd ?_)
      simp only [← Array.forIn_toList]
      refine (SemW.bind _ _ _ _).2 (checkFields (n := 9998) hkt ?_ hk)
      rw [List.all_eq_true] at hko ⊢
      intro f hf
      have := hko f hf
      simp only [List.size_toArray, hv.len]
      exact this
    · cases hko
    · rename_i h1 h2; first | exact (h1 _ rfl).elim | exact (h2 _ rfl).elim
  · exact checkFlat (n := 9999) hkt hk
end

/-! ### Operations -/
def mapOf (h : CH) : CV → Option (List (CV × CV × Nat))
  | .nilm => some []
  | .mp k => (match h.t.get k with
    | some (.map es _) => some es
    | _ => none)
  | _ => none
def cLookup (P : Program) (t : TypeId) (x i : CV) (ok : Bool) (h : CH) : Option CV := match P.underlying t with
  | some (.map kt el) => (match mapOf h x, keyTy P kt && keyOk P kt i with
    | some es, true => (match cFind P kt i es 0 with
      | some (some (_, v)) => some (match ok with | true => .tup [v, .bool true] | false => v)
      | some none => (match P.info? el with
        | some it => (match it.zero with
          | some z => some (match ok with | true => .tup [cvOf z, .bool false] | false => cvOf z)
          | none => none)
        | none => none)
      | none => none)
    | _, _ => none)
  | _ => none
section
variable {P : Program} {H0 : Heap} {r : List RB} {h : CH} {H : Heap}
theorem semW_pure {α : Type} {a : α} {K : α → Heap → Prop} (h : K a H) : SemW P (pure a) H K := h
theorem semW_zeroV {el : TypeId} {it : TypeInfo} {z : Value} {K : Value → Heap → Prop} (h1 : P.info? el = some it) (h2 : it.zero = some z) (hk : K z H) : SemW P (zeroValue el) H K := by
  unfold zeroValue typeInfo
  show SemW P ((match P.info? el with | some d => pure d | none => stuck "no such type") >>= fun i => match i.zero with | some v => pure v | none => unsupported (.resourceLimit "a value of more than 2^22 cells")) H K
  rw [h1]
  show SemW P (match it.zero with | some v => pure v | none => unsupported (.resourceLimit "a value of more than 2^22 cells")) H K
  rw [h2]; exact hk
theorem mapOf.ok (R : Rl P H0 r h H) {x : CV} {es : List (CV × CV × Nat)} {v : Value} (hc : mapOf h x = some es) (hv : VR r x v) : (v = .map none ∧ es = []) ∨ ∃ b ms ck, v = .map (some b) ∧ H b = some (.map ⟨ms⟩ ck) ∧ MR r es ms := by
  unfold mapOf at hc
  split at hc
  · simp only [VR] at hv; cases hc; exact .inl ⟨hv, rfl⟩
  · simp only [VR] at hv
    obtain ⟨b, hb, rfl⟩ := hv
    split at hc
    · rename_i ck hk
      cases hc
      obtain ⟨ms, h1, h2⟩ := R.blk _ b _ hb hk
      exact .inr ⟨_, ms, ck, rfl, h1, h2⟩
    · cases hc
  · cases hc
theorem cLookup.ok (R : Rl P H0 r h H) {t : TypeId} {x i y : CV} {ok : Bool} {v u : Value} {K : Value → Heap → Prop} (hc : cLookup P t x i ok h = some y) (hv : VR r x v) (hu : VR r i u) (hk : ∀ w, VR r y w → K w H) : SemW P (Instr.lookup t v u ok) H K := by
  unfold cLookup at hc
  split at hc
  · rename_i kt el hty
    split at hc
    · rename_i es hm hkk
      simp only [Bool.and_eq_true] at hkk
      unfold Instr.lookup
      refine (SemW.bind _ _ _ _).2 (semW_underlying hty ?_)
      rcases mapOf.ok R hm hv with ⟨rfl, rfl⟩ | ⟨b, ms, ck, rfl, hb, hms⟩
      · have hms : MR r [] [] := rfl
        refine (SemW.bind _ _ _ _).2 ?_
        refine (SemW.bind _ _ _ _).2 (checkKey_ok hkk.1 hkk.2 hu ?_)
        split at hc
        · rename_i j v' hf
          cases hc
          refine (SemW.bind _ _ _ _).2 (findKey_ok hkk.1 hu hf hms fun w hw => ?_)
          obtain ⟨v2, rfl, hv2⟩ := hw
          cases ok with
          | true => exact hk _ ⟨_, rfl, VRs.cons hv2 (VRs.cons rfl VRs.nil)⟩
          | false => exact hk _ hv2
        · rename_i hf
          split at hc
          · rename_i it hi
            split at hc
            · rename_i z hz
              cases hc
              refine (SemW.bind _ _ _ _).2 (findKey_ok hkk.1 hu hf hms fun w hw => ?_)
              cases hw
              refine (SemW.bind _ _ _ _).2 ?_
              refine semW_zeroV hi hz ?_
              cases ok with
              | true => exact hk _ ⟨_, rfl, VRs.cons (vr_of r z) (VRs.cons rfl VRs.nil)⟩
              | false => exact hk _ (vr_of r z)
            · cases hc
          · cases hc
        · cases hc
      · refine (SemW.bind _ _ _ _).2 ?_
        refine ⟨_, hb, rfl, ?_⟩
        refine (SemW.bind _ _ _ _).2 (semW_pure ?_)
        refine (SemW.bind _ _ _ _).2 (checkKey_ok hkk.1 hkk.2 hu ?_)
        split at hc
        · rename_i j v' hf
          cases hc
          refine (SemW.bind _ _ _ _).2 (findKey_ok hkk.1 hu hf hms fun w hw => ?_)
          obtain ⟨v2, rfl, hv2⟩ := hw
          cases ok with
          | true => exact hk _ ⟨_, rfl, VRs.cons hv2 (VRs.cons rfl VRs.nil)⟩
          | false => exact hk _ hv2
        · rename_i hf
          split at hc
          · rename_i it hi
            split at hc
            · rename_i z hz
              cases hc
              refine (SemW.bind _ _ _ _).2 (findKey_ok hkk.1 hu hf hms fun w hw => ?_)
              cases hw
              refine (SemW.bind _ _ _ _).2 ?_
              refine semW_zeroV hi hz ?_
              cases ok with
              | true => exact hk _ ⟨_, rfl, VRs.cons (vr_of r z) (VRs.cons rfl VRs.nil)⟩
              | false => exact hk _ (vr_of r z)
            · cases hc
          · cases hc
        · cases hc
    · cases hc
  · cases hc
theorem cMkMap (R : Rl P H0 r h H) {K : Value → Heap → Prop} (hk : Out P H0 r h H (.mp h.n) (h.add (.map [] 0)) K) {t : TypeId} : SemW P (Instr.makeMap t none) H K := by
  unfold Instr.makeMap
  intro n hn
  obtain ⟨R', E'⟩ := R.push (o := .map [] 0) (obj := .map #[] 0) (x := ⟨n, 0, 0⟩) hn rfl ⟨[], upd_eq, rfl⟩
  refine hk _ _ _ E' R' ⟨⟨n, 0, 0⟩, ?_, rfl⟩
  rw [← R.len]; exact last_get _

theorem MR.len : ∀ {es : List (CV × CV × Nat)} {ms : List MapEntry}, MR r es ms → ms.length = es.length
  | [], _, h => by simp only [MR] at h; subst h; rfl
  | (k, v, b) :: es, _, h => by
    simp only [MR] at h
    obtain ⟨m, us, rfl, _, _, _, h⟩ := h
    simp [MR.len h]
theorem MR.push : ∀ {es : List (CV × CV × Nat)} {ms : List MapEntry} {k v : CV} {m : MapEntry}, MR r es ms → VR r k m.key → VR r v m.val → MR r (es ++ [(k, v, m.born)]) (ms ++ [m])
  | [], _, k, v, m, h, h1, h2 => by simp only [MR] at h; subst h; exact ⟨m, [], rfl, h1, h2, rfl, rfl⟩
  | (k0, v0, b) :: es, _, k, v, m, h, h1, h2 => by
    simp only [MR] at h
    obtain ⟨m0, us, rfl, a1, a2, a3, h⟩ := h
    exact ⟨m0, _, rfl, a1, a2, a3, MR.push h h1 h2⟩
/-- An entry given a new value. -/
def setV (x : CV) : List (CV × CV × Nat) → Nat → List (CV × CV × Nat)
  | [], _ => []
  | (k, _, b) :: es, 0 => (k, x, b) :: es
  | e :: es, i + 1 => e :: setV x es i
theorem MR.setV {x : CV} {u : Value} (hx : VR r x u) : ∀ {es : List (CV × CV × Nat)} {ms : List MapEntry} {i : Nat}, MR r es ms → MR r (setV x es i) (ms.modify i fun e => { e with val := u })
  | [], _, i, h => by simp only [MR] at h; subst h; simp [Ev.setV, MR]
  | (k, v, b) :: es, _, i, h => by
    simp only [MR] at h
    obtain ⟨m, us, rfl, a1, a2, a3, h⟩ := h
    cases i with
    | zero => exact ⟨_, us, rfl, a1, hx, a3, h⟩
    | succ i => exact ⟨m, _, rfl, a1, a2, a3, MR.setV hx h⟩
def eraseE : List (CV × CV × Nat) → Nat → List (CV × CV × Nat)
  | [], _ => []
  | _ :: es, 0 => es
  | e :: es, i + 1 => e :: eraseE es i
theorem MR.erase : ∀ {es : List (CV × CV × Nat)} {ms : List MapEntry} {i : Nat}, MR r es ms → MR r (eraseE es i) (ms.eraseIdx i)
  | [], _, i, h => by simp only [MR] at h; subst h; simp [eraseE, MR]
  | (k, v, b) :: es, _, i, h => by
    simp only [MR] at h
    obtain ⟨m, us, rfl, a1, a2, a3, h⟩ := h
    cases i with
    | zero => exact h
    | succ i => exact ⟨m, _, rfl, a1, a2, a3, MR.erase h⟩

/-- A map written. -/
theorem Rl.setMap (R : Rl P H0 r h H) {k ck ck' : Nat} {es es' : List (CV × CV × Nat)} {ms' : List MapEntry} {b : RB} (hb : r[k]? = some b) (hk : h.t.get k = some (.map es ck)) (hm : MR r es' ms') :
    Rl P H0 r (h.wr k (.map es' ck')) (H.upd b.blk (.map ⟨ms'⟩ ck')) ∧ Ex r h H r (h.wr k (.map es' ck')) (H.upd b.blk (.map ⟨ms'⟩ ck')) :=
  R.write hb (live_of hk (by simp)) (fun j hj => upd_ne hj) ⟨ms', upd_eq, hm⟩
end
end Go.Ev
