/-
  Operations that read, and such that reckon.
-/
import Derived.Test.YthojhkhiamomnaaGreatEv2
noncomputable section
set_option linter.all false
namespace Go.Ev
variable [Sym]
open Go.Sh

def cvOf1 : Value → CV
  | .bool b => .bool b
  | .int k n => .int k n
  | .string s => .str s.data.toList
  | .pointer none => .nilp
  | .slice none 0 0 => .nils
  | .map none => .nilm
  | .nilFunc => .nilf
  | .nilIface => .nili
  | .tuple ⟨[]⟩ => und
  | v => .opq v
def cvOf : Value → CV
  | .agg ⟨cs⟩ => .agg (cs.map cvOf1)
  | v => cvOf1 v
theorem vr_of1 (r : List RB) (v : Value) : VR r (cvOf1 v) v := by
  unfold cvOf1
  split <;> (try simp only [VR])
  · simp [bstr]
  · exact vr_und
theorem vrs_of1 (r : List RB) : ∀ vs : List Value, VRs r (vs.map cvOf1) vs
  | [] => VRs.nil
  | v :: vs => VRs.cons (vr_of1 r v) (vrs_of1 r vs)
theorem vr_of (r : List RB) (v : Value) : VR r (cvOf v) v := by
  unfold cvOf
  split
  · rename_i cs
    simp only [VR]
    exact ⟨cs, rfl, vrs_of1 r cs⟩
  · exact vr_of1 r v

/-! ### Temporaries -/
abbrev CE := Tr CV
def putE (e : CE) (d : Option Tmp) (x : CV) : CE := match d with
  | some d => e.set d x
  | none => e
theorem ER.put {r : List RB} {e : CE} {ρ : Env} (h : ER r e ρ) (d : Option Tmp) {x : CV} {v : Value} (hv : VR r x v) : ER r (putE e d x) (put ρ d v) := by
  cases d with
  | none => exact h
  | some d =>
    intro t
    simp only [putE, getE, Tr.get_set, Sh.put]
    by_cases e' : t = d
    · subst e'; rw [if_pos rfl, Nat.beq_refl]; exact hv
    · rw [if_neg e']
      have : Nat.beq t d = false := by
        cases hb : Nat.beq t d with
        | true => exact absurd (Nat.eq_of_beq_eq_true hb) e'
        | false => rfl
      rw [this]; exact h t
def cEv (e : CE) : Operand → Option CV
  | .tmp t => some (getE e t)
  | .const v => some (cvOf v)
  | .func f => some (.fn f [])
  | .global _ => none
theorem ER.cev {r : List RB} {e : CE} {ρ : Env} (h : ER r e ρ) {o : Operand} {x : CV} (hx : cEv e o = some x) : VR r x (ev ρ o) := by
  cases o <;> simp only [cEv, Option.some.injEq] at hx <;> first | (cases hx; done) | subst hx
  · exact h _
  · exact vr_of r _
  · simp only [VR]; exact ⟨[], rfl, rfl⟩
def cEvs (e : CE) : List Operand → Option (List CV)
  | [] => some []
  | o :: os => match cEv e o, cEvs e os with
    | some x, some xs => some (x :: xs)
    | _, _ => none
theorem ER.cevs {r : List RB} {e : CE} {ρ : Env} (h : ER r e ρ) : ∀ {os : List Operand} {xs : List CV}, cEvs e os = some xs → VRs r xs (os.map (ev ρ))
  | [], _, hx => by simp only [cEvs, Option.some.injEq] at hx; subst hx; exact VRs.nil
  | o :: os, _, hx => by
    simp only [cEvs] at hx
    split at hx
    · rename_i x xs h1 h2
      cases hx
      exact VRs.cons (h.cev h1) (h.cevs h2)
    · cases hx

/-! ### Shapes -/
def leafOk : Leaf → CV → Bool
  | .int k, .int k' _ => decide (k = k')
  | .int k, .opq (.int k' _) => decide (k = k')
  | .bool, .bool _ => true
  | .bool, .opq (.bool _) => true
  | .str, .str _ => true
  | .str, .opq (.string _) => true
  | .ptr, .ptr _ _ => true
  | .ptr, .nilp => true
  | .ptr, .opq (.pointer _) => true
  | .slice, .sl _ _ _ _ _ => true
  | .slice, .nils => true
  | .slice, .sl0 => true
  | .slice, .opq (.slice _ _ _) => true
  | .any, _ => true
  | _, _ => false
theorem leafOk.ex {r : List RB} {l : Leaf} {x : CV} {v : Value} {R : Value → Prop} (hl : leafOk l x = true) (hv : VR r x v) (h : R v) : leafEx l R := by
  unfold leafOk at hl
  split at hl <;> (try simp only [VR] at hv)
  · have := of_decide_eq_true hl; subst this; subst hv; exact ⟨_, h⟩
  · have := of_decide_eq_true hl; subst this; subst hv; exact ⟨_, h⟩
  · subst hv; exact ⟨_, h⟩
  · subst hv; exact ⟨_, h⟩
  · subst hv; exact ⟨_, h⟩
  · subst hv; exact ⟨_, h⟩
  · obtain ⟨b, _, rfl⟩ := hv; exact ⟨_, h⟩
  · subst hv; exact ⟨_, h⟩
  · subst hv; exact ⟨_, h⟩
  · obtain ⟨b, _, rfl⟩ := hv; exact ⟨_, _, _, h⟩
  · subst hv; exact ⟨_, _, _, h⟩
  · obtain ⟨a, c, rfl⟩ := hv; exact ⟨_, _, _, h⟩
  · subst hv; exact ⟨_, _, _, h⟩
  · exact ⟨_, h⟩
  · cases hl
def leafsOk : List Leaf → List CV → Bool
  | [], [] => true
  | l :: ls, x :: xs => match leafOk l x with
    | true => leafsOk ls xs
    | false => false
  | _, _ => false
theorem leafsOk.exL {r : List RB} {R : List Value → Prop} : ∀ {ls : List Leaf} {xs : List CV} {vs acc : List Value}, leafsOk ls xs = true → VRs r xs vs → R (acc ++ vs) → leafL ls acc R
  | [], [], _, acc, _, hv, h => by simp only [VRs] at hv; subst hv; rw [List.append_nil] at h; exact h
  | l :: ls, x :: xs, _, acc, ho, hv, h => by
    simp only [VRs] at hv
    obtain ⟨v, us, rfl, h1, h2⟩ := hv
    simp only [leafsOk] at ho
    split at ho
    · rename_i h0
      exact leafOk.ex h0 h1 (leafsOk.exL ho h2 (by rw [List.append_assoc]; exact h))
    · cases ho
  | [], _ :: _, _, _, ho, _, _ => by cases ho
  | _ :: _, [], _, _, ho, _, _ => by cases ho

def tyOk1 (P : Program) (t : TypeId) (x : CV) : Bool := match isAggB P t with
  | some true => match Nat.ble (P.cellsOf t) 24, x with
    | true, .agg cs => leafsOk (leaves P 6 t) cs
    | false, .agg _ => true
    | _, _ => false
  | _ => leafOk (leafOf P t) x
def tyOkL (P : Program) : List TypeId → List CV → Bool
  | [], [] => true
  | t :: ts, x :: xs => match tyOk1 P t x with
    | true => tyOkL P ts xs
    | false => false
  | _, _ => false
def tyOk (P : Program) (t : TypeId) (x : CV) : Bool := match P.underlying t with
  | some (.tuple ts) => (match x with
    | .tup xs => tyOkL P ts.toList xs
    | .opq (.tuple ⟨[]⟩) => tyOkL P ts.toList []
    | _ => false)
  | _ => tyOk1 P t x
theorem tyOk1.ex {P : Program} {r : List RB} {t : TypeId} {x : CV} {v : Value} {R : Value → Prop} (ho : tyOk1 P t x = true) (hv : VR r x v) (h : R v) : tyEx1 P t R := by
  unfold tyOk1 at ho
  unfold tyEx1
  split at ho
  · rename_i hA
    rw [hA]
    split at ho
    · rename_i cs hb
      simp only [hb]
      simp only [VR] at hv
      obtain ⟨vs, rfl, hv⟩ := hv
      exact leafsOk.exL ho hv h
    · rename_i cs hb
      simp only [hb]
      simp only [VR] at hv
      obtain ⟨vs, rfl, hv⟩ := hv
      exact ⟨vs, h⟩
    · cases ho
  · rename_i hA
    have := leafOk.ex ho hv h
    split
    · rename_i hA'; exact absurd hA' hA
    · exact this
theorem tyOkL.ex {P : Program} {r : List RB} {R : List Value → Prop} : ∀ {ts : List TypeId} {xs : List CV} {vs acc : List Value}, tyOkL P ts xs = true → VRs r xs vs → R (acc ++ vs) → tyExL P ts acc R
  | [], [], _, acc, _, hv, h => by simp only [VRs] at hv; subst hv; rw [List.append_nil] at h; exact h
  | l :: ls, x :: xs, _, acc, ho, hv, h => by
    simp only [VRs] at hv
    obtain ⟨v, us, rfl, h1, h2⟩ := hv
    simp only [tyOkL] at ho
    split at ho
    · rename_i h0
      exact tyOk1.ex h0 h1 (tyOkL.ex ho h2 (by rw [List.append_assoc]; exact h))
    · cases ho
  | [], _ :: _, _, _, ho, _, _ => by cases ho
  | _ :: _, [], _, _, ho, _, _ => by cases ho
theorem tyOk.of {P : Program} {r : List RB} {t : TypeId} {x : CV} {v : Value} {K : Value → Heap → Prop} {H : Heap} (ho : tyOk P t x = true) (hv : VR r x v) (h : K v H) : ofTy P t K v H := by
  unfold ofTy tyEx
  unfold tyOk at ho
  split at ho
  · rename_i ts hu
    rw [hu]
    split at ho
    · simp only [VR] at hv
      obtain ⟨vs, rfl, hv⟩ := hv
      exact tyOkL.ex ho hv ⟨rfl, h⟩
    · simp only [VR] at hv
      subst hv
      exact tyOkL.ex (r := []) ho VRs.nil ⟨rfl, h⟩
    · cases ho
  · rename_i hu
    have := tyOk1.ex (R := fun u => v = u ∧ K u H) ho hv ⟨rfl, h⟩
    split
    · rename_i ts hu'; exact absurd hu' (hu ts)
    · exact this

/-! ### Loads -/
def rds (h : CH) (k : Nat) : Nat → Nat → Option (List CV)
  | _, 0 => some []
  | o, n + 1 => match rd h k o, rds h k (o + 1) n with
    | some x, some xs => some (x :: xs)
    | _, _ => none
section
variable {P : Program} {H0 : Heap} {r : List RB} {h : CH} {H : Heap}
theorem Rl.rds (R : Rl P H0 r h H) {k : Nat} {b : RB} (hb : r[k]? = some b) : ∀ {n o : Nat} {xs : List CV}, rds h k o n = some xs →
    ∃ vs, VRs r xs vs ∧ vs.length = n ∧ ∀ j, j < n → H.cell ⟨b.blk, b.base + (o + j), none⟩ = vs[j]?
  | 0, _, _, hx => by simp only [Ev.rds, Option.some.injEq] at hx; subst hx; exact ⟨[], VRs.nil, rfl, fun j hj => absurd hj (by omega)⟩
  | n + 1, o, _, hx => by
    simp only [Ev.rds] at hx
    split at hx
    · rename_i x xs h1 h2
      cases hx
      obtain ⟨v, hv, e⟩ := R.rd h1 hb
      obtain ⟨vs, hvs, hl, hc⟩ := R.rds hb h2
      refine ⟨v :: vs, VRs.cons e hvs, by simp [hl], fun j hj => ?_⟩
      cases j with
      | zero => exact hv
      | succ j =>
        rw [List.getElem?_cons_succ, ← hc j (by omega)]
        congr 2; omega
    · cases hx

def cLoad (P : Program) (t : TypeId) (x : CV) (h : CH) : Option CV := match x with
  | .ptr k o => match isAggB P t with
    | some false => (match rd h k o with
      | some y => (match leafOk (leafOf P t) y with
        | true => some y
        | false => none)
      | none => none)
    | some true => (match rds h k o (P.cellsOf t) with
      | some ys => (match Nat.ble (P.cellsOf t) 24 && Nat.beq (leaves P 6 t).length (P.cellsOf t) with
        | true => (match leafsOk (leaves P 6 t) ys with
          | true => some (.agg ys)
          | false => none)
        | false => some (.agg ys))
      | none => none)
    | none => none
  | _ => none
theorem ldCells_of {a : Addr} {K : List Value → Prop} (ha : a.spot = none) : ∀ {ls : List Leaf} {xs : List CV} {vs acc : List Value} {i : Nat}, leafsOk ls xs = true → VRs r xs vs → (∀ j, j < vs.length → H.cell ⟨a.block, a.off + (i + j), none⟩ = vs[j]?) →
    K (acc ++ vs) → ldCells H a i ls acc K
  | [], [], _, acc, i, _, hv, _, h => by simp only [VRs] at hv; subst hv; rw [List.append_nil] at h; exact h
  | l :: ls, x :: xs, _, acc, i, ho, hv, hc, h => by
    simp only [VRs] at hv
    obtain ⟨v, us, rfl, h1, h2⟩ := hv
    simp only [leafsOk] at ho
    split at ho
    · rename_i h0
      refine leafOk.ex h0 h1 ⟨?_, ldCells_of ha ho h2 (fun j hj => ?_) (by rw [List.append_assoc]; exact h)⟩
      · have := hc 0 (by simp)
        rw [padd_eq, add_of_spot ha]
        exact this
      · have := hc (j + 1) (by simpa using hj)
        rw [List.getElem?_cons_succ] at this
        rw [← this]; congr 2; omega
    · cases ho
  | [], _ :: _, _, _, _, ho, _, _, _ => by cases ho
  | _ :: _, [], _, _, _, ho, _, _, _ => by cases ho

theorem cLoad.ok (R : Rl P H0 r h H) {t : TypeId} {x y : CV} {v : Value} {K : Value → Heap → Prop} (hc : cLoad P t x h = some y) (hv : VR r x v) (hk : ∀ w, VR r y w → K w H) : LoadW P t v H K := by
  unfold cLoad at hc
  split at hc
  · rename_i k o
    simp only [VR] at hv
    obtain ⟨b, hb, rfl⟩ := hv
    unfold LoadW
    simp only
    split at hc
    · rename_i hA
      rw [hA]
      split at hc
      · rename_i y' hy
        split at hc
        · rename_i hl
          cases hc
          obtain ⟨w, hw, e⟩ := R.rd hy hb
          exact leafOk.ex hl e ⟨hw, hk w e⟩
        · cases hc
      · cases hc
    · rename_i hA
      rw [hA]
      split at hc
      · rename_i ys hy
        obtain ⟨vs, hvs, hl, hcs⟩ := R.rds hb hy
        split at hc
        · rename_i hbb
          rw [hbb]
          split at hc
          · rename_i hlo
            cases hc
            refine ldCells_of rfl hlo hvs (fun j hj => ?_) (hk _ ⟨vs, rfl, hvs⟩)
            rw [← hcs j (by omega)]
            congr 2; simp only; omega
          · cases hc
        · rename_i hbb
          rw [hbb]
          cases hc
          refine ⟨vs, hl, fun j hj => ?_, hk _ ⟨vs, rfl, hvs⟩⟩
          rw [add_of_spot rfl, ← hcs j (by omega)]
          congr 2; simp only; omega
      · cases hc
    · cases hc
  · cases hc

/-! ### Places -/
def inB (n : Int) (len : Nat) : Option Nat := match n with
  | .ofNat m => match Nat.blt m len with
    | true => some m
    | false => none
  | .negSucc _ => none
theorem inB.ok {n : Int} {len m : Nat} (h : inB n len = some m) : n = m ∧ m < len := by
  unfold inB at h
  split at h
  · split at h
    · rename_i hb; cases h; exact ⟨rfl, by simpa using hb⟩
    · cases h
  · cases h
theorem inB.of {n : Int} {len m : Nat} (h : inB n len = some m) {k : Nat → Prop} (hk : k m) : InB n len k := by
  obtain ⟨rfl, h2⟩ := inB.ok h
  exact InB.intro m rfl h2 hk
def inC' (n : Int) (len : Nat) : Option Nat := match n with
  | .ofNat m => match Nat.ble m len with
    | true => some m
    | false => none
  | .negSucc _ => none
theorem inC'.ok {n : Int} {len m : Nat} (h : inC' n len = some m) : n = m ∧ m ≤ len := by
  unfold inC' at h
  split at h
  · split at h
    · rename_i hb; cases h; exact ⟨rfl, Nat.le_of_ble_eq_true hb⟩
    · cases h
  · cases h

def cIdxAddr (P : Program) (t : TypeId) (x i : CV) : Option CV := match P.underlying t, x, i with
  | some (.array len e), .ptr k o, .int _ n => (match szOf P e, inB n len with
    | some s, some m => some (.ptr k (o + m * s))
    | _, _ => none)
  | some (.slice e), .sl k o len _ _, .int _ n => (match szOf P e, inB n len with
    | some s, some m => some (.ptr k (o + m * s))
    | _, _ => none)
  | _, _, _ => none
theorem cIdxAddr.ok {t : TypeId} {x i y : CV} {v u : Value} {K : Value → Heap → Prop} (hc : cIdxAddr P t x i = some y) (hv : VR r x v) (hu : VR r i u) (hk : ∀ w, VR r y w → K w H) : IdxAddrW P t v u H K := by
  unfold cIdxAddr at hc
  split at hc
  · rename_i len e k o kk n hty
    split at hc
    · rename_i s m hs hm
      cases hc
      simp only [VR] at hv hu
      obtain ⟨b, hb, rfl⟩ := hv
      subst hu
      unfold IdxAddrW
      rw [hty]
      simp only [sizeK, hs, NilP]
      refine inB.of hm (hk _ ?_)
      simp only [VR]
      exact ⟨b, hb, by rw [Nat.add_assoc]⟩
    · cases hc
  · rename_i e k o len _ _ kk n hty
    split at hc
    · rename_i s m hs hm
      cases hc
      simp only [VR] at hv hu
      obtain ⟨b, hb, rfl⟩ := hv
      subst hu
      unfold IdxAddrW
      rw [hty]
      simp only [sizeK, hs, NilP]
      refine inB.of hm (hk _ ?_)
      simp only [VR]
      exact ⟨b, hb, by rw [Nat.add_assoc]⟩
    · cases hc
  · cases hc

def cIdx (P : Program) (t : TypeId) (x i : CV) : Option CV := match P.underlying t, x, i with
  | some .string, .str s, .int _ n => (match inB n s.length with
    | some m => some (.int .u8 (s.getD m 0).toNat)
    | none => none)
  | some (.array len e), .agg cs, .int _ n => (match szOf P e, inB n len with
    | some s, some m => (match isAggB P e with
      | some true => some (.agg ((cs.drop (m * s)).take s))
      | some false => cs[m * s]?
      | none => none)
    | _, _ => none)
  | _, _, _ => none
theorem cIdx.ok {t : TypeId} {x i y : CV} {v u : Value} {K : Value → Heap → Prop} (hc : cIdx P t x i = some y) (hv : VR r x v) (hu : VR r i u) (hk : ∀ w, VR r y w → K w H) : IdxW P t v u H K := by
  unfold cIdx at hc
  split at hc
  · rename_i s kk n hty
    split at hc
    · rename_i m hm
      cases hc
      simp only [VR] at hv hu
      subst hv hu
      unfold IdxW
      rw [hty]
      have hsz : (bstr s).size = s.length := by simp [bstr, ByteArray.size_eq]
      simp only [hsz]
      refine inB.of hm ?_
      have : (bstr s).data.getD m 0 = s.getD m 0 := by simp [bstr, Array.getD_eq_getD_getElem?, List.getD_eq_getElem?_getD]
      rw [this]
      exact hk _ rfl
    · cases hc
  · rename_i len e cs kk n hty
    split at hc
    · rename_i s m hs hm
      simp only [VR] at hv hu
      obtain ⟨vs, rfl, hvs⟩ := hv
      subst hu
      unfold IdxW
      rw [hty]
      simp only [sizeK, hs]
      refine inB.of hm ?_
      split at hc
      · rename_i hA
        cases hc
        rw [hA]
        exact hk _ ⟨_, rfl, VRs.take _ (VRs.drop _ hvs)⟩
      · rename_i hA
        rw [hA]
        obtain ⟨w, hw, e⟩ := hvs.get _ _ hc
        simp only [hw]
        exact hk w e
      · cases hc
    · cases hc
  · cases hc

def cFieldAddr (P : Program) (s : TypeId) (x : CV) (f : Nat) : Option CV := match P.underlying s, x with
  | some (.struct fs), .ptr k o => (match fs.toList[f]? with
    | some f => (match szOf P f.type with
      | some (_ + 1) => some (.ptr k (o + f.offset))
      | _ => none)
    | none => none)
  | _, _ => none
theorem cFieldAddr.ok {s : TypeId} {x y : CV} {f : Nat} {v : Value} {K : Value → Heap → Prop} (hc : cFieldAddr P s x f = some y) (hv : VR r x v) (hk : ∀ w, VR r y w → K w H) : FieldAddrW P s v f H K := by
  unfold cFieldAddr at hc
  split at hc
  · rename_i fs k o hty
    split at hc
    · rename_i f hf
      split at hc
      · rename_i n hs
        cases hc
        simp only [VR] at hv
        obtain ⟨b, hb, rfl⟩ := hv
        unfold FieldAddrW
        rw [hty]
        simp only [hf, sizeK, hs]
        refine hk _ ⟨b, hb, ?_⟩
        rw [padd_eq, add_of_spot rfl, Nat.add_assoc]
      · cases hc
    · cases hc
  · cases hc

def cField (P : Program) (t : TypeId) (x : CV) (f : Nat) : Option CV := match P.underlying t, x with
  | some (.struct fs), .agg cs => (match fs.toList[f]? with
    | some f => (match isAggB P f.type with
      | some true => (match szOf P f.type with
        | some s => some (.agg ((cs.drop f.offset).take s))
        | none => none)
      | some false => cs[f.offset]?
      | none => none)
    | none => none)
  | _, _ => none
theorem cField.ok {s : TypeId} {x y : CV} {f : Nat} {v : Value} {K : Value → Heap → Prop} (hc : cField P s x f = some y) (hv : VR r x v) (hk : ∀ w, VR r y w → K w H) : FieldW P s v f H K := by
  unfold cField at hc
  split at hc
  · rename_i fs cs hty
    simp only [VR] at hv
    obtain ⟨vs, rfl, hvs⟩ := hv
    unfold FieldW
    rw [hty]
    split at hc
    · rename_i f hf
      simp only [hf]
      split at hc
      · rename_i hA
        rw [hA]
        split at hc
        · rename_i s hs
          cases hc
          simp only [sizeK, hs]
          exact hk _ ⟨_, rfl, VRs.take _ (VRs.drop _ hvs)⟩
        · cases hc
      · rename_i hA
        rw [hA]
        obtain ⟨w, hw, e⟩ := hvs.get _ _ hc
        simp only [hw]
        exact hk w e
      · cases hc
    · cases hc
  · cases hc

/-! ### Slices -/
/-- A bound that is an int. -/
def bnd : Option CV → Nat → Nat → Option Nat
  | none, d, _ => some d
  | some (.int _ n), _, cap => inC' n cap
  | _, _, _ => none
def VRo (r : List RB) : Option CV → Option Value → Prop
  | none, v => v = none
  | some c, v => ∃ w, v = some w ∧ VR r c w
theorem bnd.of {c : Option CV} {v : Option Value} {d cap cap' m : Nat} {k : Nat → Prop} (h : bnd c d cap = some m) (hv : VRo r c v) (hle : cap ≤ cap') (hk : k m) : slHi v d cap' k := by
  unfold bnd at h
  split at h
  · simp only [VRo] at hv; subst hv; cases h; exact hk
  · simp only [VRo, VR] at hv
    obtain ⟨w, rfl, rfl⟩ := hv
    obtain ⟨rfl, h2⟩ := inC'.ok h
    exact InC.intro m rfl (Nat.le_trans h2 hle) hk
  · cases h
theorem slHi.mono' {v : Option Value} {d cap : Nat} {k k' : Nat → Prop} (h : ∀ m, k m → k' m) (hs : slHi v d cap k) : slHi v d cap k' := by
  unfold slHi at hs ⊢
  split at hs
  · exact h _ hs
  · exact ⟨hs.1, hs.2.1, h _ hs.2.2⟩
  · exact hs.elim
theorem bnd.le {c : Option CV} {d cap m : Nat} (h : bnd c d cap = some m) (hd : d ≤ cap) : m ≤ cap := by
  unfold bnd at h
  split at h
  · cases h; exact hd
  · exact (inC'.ok h).2
  · cases h

def cSlLo (sz : Nat) (k o h cap : Nat) (ex : Bool) (lo : Option CV) : Option CV := match lo with
  | none => some (.sl k o h cap ex)
  | some c => match bnd (some c) 0 h with
    | none => none
    | some l => match Nat.ble h cap with
      | false => none
      | true => match Nat.beq l 0 with
        | true => some (.sl k o h cap ex)
        | false => match Nat.beq l cap with
          | true => (match ex with
            | true => some .sl0
            | false => some (.sl k o 0 0 false))
          | false => some (.sl k (o + l * sz) (h - l) (cap - l) ex)
def cSlice (P : Program) (t : TypeId) (x : CV) (lo hi mx : Option CV) : Option CV := match P.underlying t, x, mx with
  | some .string, .str s, none => (match bnd hi s.length s.length with
    | some h => (match bnd lo 0 h with
      | some l => some (.str ((s.drop l).take (h - l)))
      | none => none)
    | none => none)
  | some (.slice e), .sl k o len cap ex, none => (match szOf P e, bnd hi len cap with
    | some sz, some h => cSlLo sz k o h cap ex lo
    | _, _ => none)
  | some (.slice e), .nils, none => (match szOf P e, bnd hi 0 0, bnd lo 0 0 with
    | some _, some 0, some 0 => some .nils
    | _, _, _ => none)
  | some (.slice e), .sl0, none => (match szOf P e, bnd hi 0 0, bnd lo 0 0 with
    | some _, some 0, some 0 => some .sl0
    | _, _, _ => none)
  | some (.array n e), .ptr k o, none => (match szOf P e, bnd hi n n with
    | some sz, some h => cSlLo sz k o h n false lo
    | _, _ => none)
  | some (.slice e), .sl k o _ cap _, some m => (match szOf P e, hi with
    | some sz, some hv => (match bnd (some m) 0 cap with
      | some m => (match bnd (some hv) 0 m with
        | some h => (match bnd lo 0 h with
          | some l => (match Nat.beq m l with
            | true => some (.sl k o (h - l) (m - l) false)
            | false => some (.sl k (o + l * sz) (h - l) (m - l) false))
          | none => none)
        | none => none)
      | none => none)
    | _, _ => none)
  | _, _, _ => none

theorem bstr_extract (s : List UInt8) (l h : Nat) : (bstr s).extract l h = bstr ((s.drop l).take (h - l)) := by
  apply ByteArray.ext
  simp only [bstr, ByteArray.data_extract]
  apply Array.ext'
  simp [List.extract_eq_drop_take]

theorem beq_true {a b : Nat} (h : Nat.beq a b = true) : a = b := Nat.eq_of_beq_eq_true h
theorem beq_false {a b : Nat} (h : Nat.beq a b = false) : a ≠ b := fun e => by subst e; rw [Nat.beq_refl] at h; cases h
theorem capOf_ge (b : RB) (cap : Nat) (ex : Bool) : cap ≤ capOf b cap ex := by cases ex <;> simp [capOf]
theorem capOf_sub (b : RB) {cap l : Nat} (h : l ≤ cap) (ex : Bool) : capOf b cap ex - l = capOf b (cap - l) ex := by cases ex <;> simp only [capOf]; omega

/-- What stands behind the upper bound. -/
theorem cSlLo.of {sz k o h cap capR : Nat} {ex : Bool} {lo : Option CV} {y : CV} {vl : Option Value} {b : RB} {K : Value → Heap → Prop} (hc : cSlLo sz k o h cap ex lo = some y) (hb : r[k]? = some b) (hl : VRo r lo vl) (hR : capR = capOf b cap ex)
    (hk : ∀ w, VR r y w → K w H) : match vl with
    | none => K (.slice (some ⟨b.blk, b.base + o, none⟩) h capR) H
    | some _ => slHi vl 0 h fun l => K (.slice (if capR = l then some ⟨b.blk, b.base + o, none⟩ else (some (⟨b.blk, b.base + o, none⟩ : Addr)).map (·.add (l * sz))) (h - l) (capR - l)) H := by
  unfold cSlLo at hc
  split at hc
  · simp only [VRo] at hl; subst hl
    cases hc
    exact hk _ ⟨b, hb, by rw [hR]⟩
  · have hl2 := hl
    simp only [VRo] at hl2
    obtain ⟨w, rfl, _⟩ := hl2
    simp only
    split at hc
    · cases hc
    · rename_i l hb2
      refine bnd.of hb2 hl (Nat.le_refl _) ?_
      have hlh : l ≤ h := bnd.le hb2 (Nat.zero_le _)
      split at hc
      · cases hc
      · rename_i hhc
        have hhc := Nat.le_of_ble_eq_true hhc
        split at hc
        · rename_i h0
          have h0 := beq_true h0
          subst h0
          cases hc
          refine hk _ ⟨b, hb, ?_⟩
          simp [Addr.add, hR]
        · rename_i h0
          have h0 := beq_false h0
          split at hc
          · rename_i hlc
            have hlc := beq_true hlc
            have hz : h - l = 0 := by omega
            split at hc
            · cases hc
              refine hk _ ?_
              rw [hz]
              simp only [VR]
              exact ⟨_, _, rfl⟩
            · cases hc
              have : capR = l := by rw [hR]; simp only [capOf]; omega
              refine hk _ ⟨b, hb, ?_⟩
              rw [if_pos this, hz, this]
              simp [capOf]
          · rename_i hlc
            have hlc := beq_false hlc
            cases hc
            have hge := capOf_ge b cap ex
            refine hk _ ⟨b, hb, ?_⟩
            rw [if_neg (by omega), hR, capOf_sub b (by omega) ex]
            simp only [Option.map_some, add_of_spot, Nat.add_assoc]

theorem cSlice.ok {t : TypeId} {x y : CV} {lo hi mx : Option CV} {v : Value} {vl vh vm : Option Value} {K : Value → Heap → Prop} (hc : cSlice P t x lo hi mx = some y) (hv : VR r x v) (hl : VRo r lo vl) (hh : VRo r hi vh) (hm : VRo r mx vm)
    (hk : ∀ w, VR r y w → K w H) : SliceW P t v vl vh vm H K := by
  unfold cSlice at hc
  split at hc
  · rename_i s hty
    simp only [VRo] at hm; subst hm
    simp only [VR] at hv; subst hv
    split at hc
    · rename_i h hb
      split at hc
      · rename_i l hb2
        cases hc
        unfold SliceW
        rw [hty]
        have hsz : (bstr s).size = s.length := by simp [bstr, ByteArray.size_eq]
        simp only [hsz]
        refine bnd.of hb hh (Nat.le_refl _) (bnd.of hb2 hl (Nat.le_refl _) (hk _ ?_))
        simp only [VR, bstr_extract]
      · cases hc
    · cases hc
  · rename_i e k o len cap ex hty
    simp only [VRo] at hm; subst hm
    simp only [VR] at hv
    obtain ⟨b, hb0, rfl⟩ := hv
    split at hc
    · rename_i sz h hs hb
      have key := cSlLo.of (H := H) (K := K) hc hb0 hl rfl hk
      unfold SliceW
      rw [hty]
      simp only [sizeK, hs]
      refine bnd.of hb hh (capOf_ge _ _ _) ?_
      cases vl with
      | none => exact key
      | some w => exact key
    · cases hc
  · rename_i e hty
    simp only [VRo] at hm; subst hm
    simp only [VR] at hv; subst hv
    split at hc
    · rename_i sz hs hb hb2
      cases hc
      unfold SliceW
      rw [hty]
      simp only [sizeK, hs]
      refine bnd.of hb hh (Nat.le_refl _) ?_
      cases vl with
      | none => exact hk _ rfl
      | some w =>
        refine bnd.of hb2 hl (Nat.le_refl _) (hk _ ?_)
        simp [VR]
    · cases hc
  · rename_i e hty
    simp only [VRo] at hm; subst hm
    simp only [VR] at hv
    obtain ⟨a, c, rfl⟩ := hv
    split at hc
    · rename_i sz hs hb hb2
      cases hc
      unfold SliceW
      rw [hty]
      simp only [sizeK, hs]
      refine bnd.of hb hh (Nat.zero_le _) ?_
      cases vl with
      | none => exact hk _ ⟨_, _, rfl⟩
      | some w =>
        refine bnd.of hb2 hl (Nat.le_refl _) (hk _ ⟨_, _, rfl⟩)
    · cases hc
  · rename_i n e k o hty
    simp only [VRo] at hm; subst hm
    simp only [VR] at hv
    obtain ⟨b, hb0, rfl⟩ := hv
    split at hc
    · rename_i sz h hs hb
      have key := cSlLo.of (H := H) (K := K) (capR := n) hc hb0 hl rfl hk
      unfold SliceW
      rw [hty]
      simp only [sizeK, hs]
      refine bnd.of hb hh (Nat.le_refl _) ?_
      cases vl with
      | none => exact key
      | some w =>
        refine slHi.mono' (fun l hl => ?_) key
        by_cases e : n = l
        · rw [if_pos e] at hl ⊢; exact hl
        · rw [if_neg e] at hl ⊢; exact hl
    · cases hc
  · rename_i e k o len cap ex m hty
    simp only [VR] at hv
    obtain ⟨b, hb0, rfl⟩ := hv
    have hm2 := hm
    simp only [VRo] at hm2
    obtain ⟨wm, rfl, _⟩ := hm2
    split at hc
    · rename_i sz hv' hs
      have hh2 := hh
      simp only [VRo] at hh2
      obtain ⟨wh, rfl, _⟩ := hh2
      split at hc
      · rename_i m' hbm
        split at hc
        · rename_i h' hbh
          split at hc
          · rename_i l' hbl
            unfold SliceW
            rw [hty]
            simp only [sizeK, hs]
            refine bnd.of hbm hm (capOf_ge _ _ _) (bnd.of hbh hh (Nat.le_refl _) (bnd.of hbl hl (Nat.le_refl _) ?_))
            split at hc
            · rename_i hml
              cases hc
              refine hk _ ⟨b, hb0, ?_⟩
              rw [if_pos (beq_true hml)]; rfl
            · rename_i hml
              cases hc
              refine hk _ ⟨b, hb0, ?_⟩
              rw [if_neg (beq_false hml)]
              simp only [Option.map_some, add_of_spot, Nat.add_assoc, capOf]
          · cases hc
        · cases hc
      · cases hc
    · cases hc
  · cases hc
end
end Go.Ev
