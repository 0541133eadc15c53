/-
  New rows; stores; append, copy, make, clear.
-/
import Derived.Test.YthojhkhiamomnaaGreatEv4
noncomputable section
set_option linter.all false
namespace Go.Ev
variable [Sym]
open Go.Sh

/-! ### Parts -/
theorem VRs.opq (r : List RB) : ∀ l : List Value, VRs r (l.map .opq) l
  | [] => VRs.nil
  | _ :: l => VRs.cons rfl (VRs.opq r l)
def cellsC : CV → List CV
  | .agg cs => cs
  | .opq v => v.cells.toList.map .opq
  | x => [x]
theorem cells_one {r : List RB} {x : CV} {v : Value} (h : v.cells = #[v]) (hv : VR r x v) : VRs r [x] v.cells.toList := by
  rw [h]; exact VRs.cons hv VRs.nil
theorem cellsC.ok {r : List RB} {x : CV} {v : Value} (hv : VR r x v) : VRs r (cellsC x) v.cells.toList := by
  have hv' := hv
  cases x <;> simp only [cellsC] <;> (try simp only [VR] at hv)
  case agg cs => obtain ⟨vs, rfl, hv⟩ := hv; exact hv
  case opq u => subst hv; exact VRs.opq r _
  case ptr => obtain ⟨_, _, rfl⟩ := hv; exact cells_one rfl hv'
  case sl => obtain ⟨_, _, rfl⟩ := hv; exact cells_one rfl hv'
  case sl0 => obtain ⟨_, _, rfl⟩ := hv; exact cells_one rfl hv'
  case mp => obtain ⟨_, _, rfl⟩ := hv; exact cells_one rfl hv'
  case fn => obtain ⟨_, rfl, _⟩ := hv; exact cells_one rfl hv'
  case bnd => obtain ⟨_, _, rfl, _⟩ := hv; exact cells_one rfl hv'
  case yld => obtain ⟨_, _, rfl⟩ := hv; exact cells_one rfl hv'
  case sym i => obtain ⟨k, n, e⟩ := Sym.ok i; subst hv; exact cells_one (by rw [e]; rfl) hv'
  case ifc => obtain ⟨_, rfl, _⟩ := hv; exact cells_one rfl hv'
  case tup => obtain ⟨_, rfl, _⟩ := hv; exact cells_one rfl hv'
  all_goals (subst hv; exact cells_one rfl hv')

theorem VRs.set {r : List RB} : ∀ {cs : List CV} {vs : List Value}, VRs r cs vs → ∀ (i : Nat) {c : CV} {v : Value}, VR r c v → VRs r (cs.set i c) (vs.set i v)
  | [], _, h, _, _, _, _ => by simp only [VRs] at h; subst h; exact VRs.nil
  | _ :: cs, _, h, i, c, v, hc => by
    simp only [VRs] at h
    obtain ⟨w, us, rfl, h1, h2⟩ := h
    cases i with
    | zero => exact VRs.cons hc h2
    | succ i => exact VRs.cons h1 (VRs.set h2 i hc)
def setC : List CV → Nat → List CV → List CV
  | cells, _, [] => cells
  | cells, off, v :: vs => setC (cells.set off v) (off + 1) vs
theorem setC.ok {r : List RB} : ∀ {xs : List CV} {us : List Value} {cs : List CV} {vs : List Value} (off : Nat), VRs r xs us → VRs r cs vs → VRs r (setC cs off xs) (setL vs off us)
  | [], _, _, _, _, h, k => by simp only [VRs] at h; subst h; exact k
  | x :: xs, _, _, _, off, h, k => by
    simp only [VRs] at h
    obtain ⟨w, us, rfl, h1, h2⟩ := h
    exact setC.ok (off + 1) h2 (VRs.set k off h1)
def fillC (place : Nat → Option (Nat × Nat)) : List CV → List (Nat × CV) → Option (List CV)
  | cells, [] => some cells
  | cells, (i, v) :: rest => match place i with
    | none => none
    | some (off, size) => match Nat.beq (cellsC v).length size && Nat.ble (off + (cellsC v).length) cells.length with
      | true => fillC place (setC cells off (cellsC v)) rest
      | false => none
def VPs (r : List RB) : List (Nat × CV) → List (Nat × Value) → Prop
  | [], qs => qs = []
  | (i, c) :: ps, qs => ∃ v us, qs = (i, v) :: us ∧ VR r c v ∧ VPs r ps us
theorem fillC.ok {r : List RB} {place : Nat → Option (Nat × Nat)} : ∀ {ps : List (Nat × CV)} {qs : List (Nat × Value)} {cs cs' : List CV} {vs : List Value}, fillC place cs ps = some cs' → VRs r cs vs → VPs r ps qs →
    ∃ vs', fillL place vs qs = some vs' ∧ VRs r cs' vs'
  | [], _, _, _, vs, h, hv, hp => by simp only [VPs] at hp; subst hp; cases h; exact ⟨vs, rfl, hv⟩
  | (i, c) :: ps, _, cs, cs', vs, h, hv, hp => by
    simp only [VPs] at hp
    obtain ⟨v, us, rfl, h1, h2⟩ := hp
    simp only [fillC] at h
    unfold fillL
    have hc := cellsC.ok h1
    split at h
    · cases h
    · rename_i off size hpl
      rw [hpl]
      simp only
      rw [hc.len, hv.len]
      split at h
      · rename_i hb
        simp only [hb]
        exact fillC.ok h (setC.ok off hc hv) h2
      · cases h
def cParts (e : CE) : List (Nat × Operand) → Option (List (Nat × CV))
  | [] => some []
  | (i, o) :: ps => match cEv e o, cParts e ps with
    | some x, some xs => some ((i, x) :: xs)
    | _, _ => none
theorem cParts.ok {r : List RB} {e : CE} {ρ : Env} (h : ER r e ρ) : ∀ {ps : List (Nat × Operand)} {xs : List (Nat × CV)}, cParts e ps = some xs → VPs r xs (ps.map fun p => (p.1, Sh.ev ρ p.2))
  | [], _, hx => by cases hx; rfl
  | (i, o) :: ps, _, hx => by
    simp only [cParts] at hx
    split at hx
    · rename_i x xs h1 h2
      cases hx
      exact ⟨_, _, rfl, h.cev h1, cParts.ok h h2⟩
    · cases hx

def zeroC (P : Program) (t : TypeId) : Option (List CV) := match zeroL P t with
  | some l => some (l.map cvOf1)
  | none => none
theorem zeroC.ok {P : Program} {t : TypeId} {xs : List CV} (h : zeroC P t = some xs) (r : List RB) : ∃ vs, zeroL P t = some vs ∧ VRs r xs vs := by
  unfold zeroC at h
  split at h
  · rename_i l hl; cases h; exact ⟨l, hl, vrs_of1 r l⟩
  · cases h
def cBuild (P : Program) (t : TypeId) (ps : List (Nat × CV)) : Option (List CV) := match P.underlying t with
  | some (.struct fs) => (match zeroC P t, placesL P fs.toList with
    | some z, some pl => fillC (pl[·]?) z ps
    | _, _ => none)
  | some (.array _ e) => (match zeroC P t, szOf P e with
    | some z, some s => fillC (fun i => some (i * s, s)) z ps
    | _, _ => none)
  | _ => none
theorem cBuild.ok {P : Program} {r : List RB} {t : TypeId} {ps : List (Nat × CV)} {qs : List (Nat × Value)} {xs : List CV} (h : cBuild P t ps = some xs) (hp : VPs r ps qs) : ∃ vs, buildL P t qs = some vs ∧ VRs r xs vs := by
  unfold cBuild at h
  unfold buildL
  split at h
  · rename_i fs hu
    simp only [hu]
    split at h
    · rename_i z pl hz hpl
      obtain ⟨zs, hzs, hv⟩ := zeroC.ok hz r
      simp only [hzs, hpl]
      exact fillC.ok h hv hp
    · cases h
  · rename_i e hu
    simp only [hu]
    split at h
    · rename_i z s hz hs
      obtain ⟨zs, hzs, hv⟩ := zeroC.ok hz r
      simp only [hzs, hs]
      exact fillC.ok h hv hp
    · cases h
  · cases h
def repC : Nat → List CV → List CV
  | 0, _ => []
  | n + 1, z => z ++ repC n z
theorem repC.ok {r : List RB} {z : List CV} {zs : List Value} (h : VRs r z zs) : ∀ n, VRs r (repC n z) (repL n zs)
  | 0 => VRs.nil
  | n + 1 => VRs.append h (repC.ok h n)
def cRow (P : Program) (e : TypeId) (len : Nat) (ps : List (Nat × CV)) : Option (List CV) := match szOf P e with
  | some s => (match len with
    | 0 => fillC (fun i => some (i * s, s)) [] ps
    | len + 1 => (match zeroC P e with
      | some z => (match Nat.beq z.length s && Nat.ble ((len + 1) * s) 16777216 with
        | true => fillC (fun i => some (i * s, s)) (repC (len + 1) z) ps
        | false => none)
      | none => none))
  | none => none
theorem cRow.ok {P : Program} {r : List RB} {e : TypeId} {len : Nat} {ps : List (Nat × CV)} {qs : List (Nat × Value)} {xs : List CV} (h : cRow P e len ps = some xs) (hp : VPs r ps qs) : ∃ vs, rowL P e len qs = some vs ∧ VRs r xs vs := by
  unfold cRow at h
  unfold rowL
  split at h
  · rename_i s hs
    simp only [hs]
    split at h
    · exact fillC.ok h VRs.nil hp
    · rename_i len
      split at h
      · rename_i z hz
        obtain ⟨zs, hzs, hv⟩ := zeroC.ok hz r
        simp only [hzs]
        rw [hv.len]
        split at h
        · rename_i hb
          simp only [hb]
          exact fillC.ok h (repC.ok hv _) hp
        · cases h
      · cases h
  · cases h

/-! ### New rows -/
def rowO (xs : List CV) (T : Nat) : CObj := .cells xs.length und (Tr.fill .e 0 xs) T
section
variable {P : Program} {H0 : Heap} {r : List RB} {h : CH} {H : Heap}
theorem Rl.row (R : Rl P H0 r h H) {m T ext : Nat} {xs : List CV} {vs rest : List Value} (hm : H m = none) (hv : VRs r xs vs) (hr : rest.length = ext * szT P T) :
    Rl P H0 (r ++ [⟨m, 0, ext⟩]) (h.add (rowO xs T)) (H.upd m (.cells ⟨vs ++ rest⟩ T (0, 0))) ∧ Ex r h H (r ++ [⟨m, 0, ext⟩]) (h.add (rowO xs T)) (H.upd m (.cells ⟨vs ++ rest⟩ T (0, 0))) :=
  R.push (x := ⟨m, 0, ext⟩) hm rfl (BR.row (VRs.mono (Pre.push r _) _ _ hv) hr)
theorem last_get (x : RB) : (r ++ [x])[r.length]? = some x := by simp
/-- A new row, and a pointer to it. -/
theorem Rl.newPtr (R : Rl P H0 r h H) {T : Nat} {xs : List CV} {vs : List Value} {K : Value → Heap → Prop} (hv : VRs r xs vs) (hk : Out P H0 r h H (.ptr h.n 0) (h.add (rowO xs T)) K) :
    ∀ n, H n = none → K (.pointer (some ⟨n, 0, none⟩)) (H.upd n (.cells ⟨vs⟩ T)) := by
  intro n hn
  obtain ⟨R', E'⟩ := R.row (T := T) (ext := 0) (rest := []) hn hv (by simp)
  rw [List.append_nil] at R' E'
  refine hk _ _ _ E' R' ⟨⟨n, 0, 0⟩, ?_, rfl⟩
  rw [← R.len]; exact last_get _
theorem Rl.newSl (R : Rl P H0 r h H) {T len : Nat} {xs : List CV} {vs : List Value} {K : Value → Heap → Prop} (hv : VRs r xs vs) (hk : Out P H0 r h H (.sl h.n 0 len len false) (h.add (rowO xs T)) K) :
    ∀ n, H n = none → K (.slice (some ⟨n, 0, none⟩) len len) (H.upd n (.cells ⟨vs⟩ T)) := by
  intro n hn
  obtain ⟨R', E'⟩ := R.row (T := T) (ext := 0) (rest := []) hn hv (by simp)
  rw [List.append_nil] at R' E'
  refine hk _ _ _ E' R' ⟨⟨n, 0, 0⟩, ?_, rfl⟩
  rw [← R.len]; exact last_get _

/-! ### Stores -/
def plainB : CV → Bool
  | .agg _ | .tup _ => false
  | .opq v => plainC v
  | _ => true
theorem plainB.ok {x : CV} {v : Value} (hp : plainB x = true) (hv : VR r x v) : plainC v = true := by
  cases x <;> simp only [plainB] at hp <;> (try simp only [VR] at hv) <;> first | (cases hp; done) | skip
  case ptr => obtain ⟨_, _, rfl⟩ := hv; rfl
  case sl => obtain ⟨_, _, rfl⟩ := hv; rfl
  case sl0 => obtain ⟨_, _, rfl⟩ := hv; rfl
  case mp => obtain ⟨_, _, rfl⟩ := hv; rfl
  case fn => obtain ⟨_, rfl, _⟩ := hv; rfl
  case bnd => obtain ⟨_, _, rfl, _⟩ := hv; rfl
  case yld => obtain ⟨_, _, rfl⟩ := hv; rfl
  case ifc => obtain ⟨_, rfl, _⟩ := hv; rfl
  case opq => subst hv; exact hp
  case sym i => obtain ⟨k, n, e⟩ := Sym.ok i; subst hv; rw [e]; rfl
  all_goals (subst hv; rfl)
def plainsB : List CV → Bool
  | [] => true
  | x :: xs => match plainB x with
    | true => plainsB xs
    | false => false
theorem plainsB.ok : ∀ {xs : List CV} {vs : List Value}, plainsB xs = true → VRs r xs vs → ∀ v ∈ vs, plainC v = true
  | [], _, _, hv, v, hm => by simp only [VRs] at hv; subst hv; cases hm
  | x :: xs, _, h, hv, v, hm => by
    simp only [VRs] at hv
    obtain ⟨w, us, rfl, h1, h2⟩ := hv
    simp only [plainsB] at h
    split at h
    · rename_i h0
      rcases List.mem_cons.1 hm with rfl | hm
      · exact plainB.ok h0 h1
      · exact plainsB.ok h h2 v hm
    · cases h
theorem StCells_row {b : Nat} {T : TypeId} {o : Nat} : ∀ (vs : List Value) (i : Nat) (H : Heap) (c : Array Value) {K : Heap → Prop}, Blk H b T c → (∀ v ∈ vs, plainC v = true) → o + i + vs.length ≤ c.size →
    (∀ H', Blk H' b T (putRow c (o + i) vs) → (∀ b', b' ≠ b → H' b' = H b') → K H') → StCells ⟨b, o, none⟩ i vs H K := by
  intro vs
  induction vs with
  | nil => exact fun i H c _ hb _ _ hk => hk H hb fun _ _ => rfl
  | cons v vs ih =>
    intro i H c K hb hv hl hk
    simp only [List.length_cons] at hl
    unfold StCells
    rw [padd_eq, add_of_spot rfl]
    refine StCell.blk hb (by show o + i < c.size; omega) (hv v List.mem_cons_self) ?_
    refine ih (i + 1) _ _ Blk.upd_eq (fun v hv' => hv v (List.mem_cons_of_mem _ hv')) (by simp; omega) fun H' hb' ho => ?_
    refine hk H' (by simpa [putRow, Nat.add_assoc] using hb') fun b' hne => ?_
    rw [ho b' hne, Sh.upd_ne hne]

def cStore (P : Program) (t : TypeId) (x y : CV) (h : CH) : Option CH := match x with
  | .ptr k o => (match szOf P t with
    | some s => (match Nat.beq (cellsC y).length s && plainsB (cellsC y) with
      | true => wrs h k o (cellsC y)
      | false => none)
    | none => none)
  | _ => none
theorem cStore.ok (R : Rl P H0 r h H) {t : TypeId} {x y : CV} {v u : Value} {h' : CH} {K : Value → Heap → Prop} (hc : cStore P t x y h = some h') (hv : VR r x v) (hu : VR r y u) (hk : Out P H0 r h H und h' K) : StoreW P t v u H K := by
  unfold cStore at hc
  split at hc
  · rename_i k o
    simp only [VR] at hv
    obtain ⟨b, hb, rfl⟩ := hv
    split at hc
    · rename_i s hs
      split at hc
      · rename_i hbb
        simp only [Bool.and_eq_true] at hbb
        have hcs := cellsC.ok hu
        obtain ⟨c, T, h1, h2, h3⟩ := R.wrs hc hb hcs
        unfold StoreW
        simp only [sizeK, hs, hcs.len, hbb.1]
        refine StCells_row _ 0 H c h1 (plainsB.ok hbb.2 hcs) (by omega) fun H' e1 e2 => ?_
        obtain ⟨R', E'⟩ := h3 H' e1 e2
        exact hk _ _ _ E' R' vr_und
      · cases hc
    · cases hc
  · cases hc

/-! ### make -/
/-! ### Rows of one thing, again and again -/
def i0 : CV → CV → Bool
  | .int k a, .int k' b => (match decide (k = k'), decide (a = b) with | true, true => true | _, _ => false)
  | _, _ => false
theorem i0.ok {x d : CV} (h : i0 x d = true) : x = d := by
  unfold i0 at h
  split at h
  · split at h
    · rename_i h1 h2; rw [of_decide_eq_true h1, of_decide_eq_true h2]
    · cases h
  · cases h
/-- What is not as the rest. -/
def exc (d : CV) : Nat → List CV → List (Nat × CV)
  | _, [] => []
  | i, x :: xs => match i0 x d with
    | true => exc d (i + 1) xs
    | false => (i, x) :: exc d (i + 1) xs
def putEx (b : Nat) : List (Nat × CV) → Tr CV → Tr CV
  | [], t => t
  | (i, x) :: l, t => putEx b l (t.set (b + i) x)
def putAll (ex : List (Nat × CV)) (w : Nat) : Nat → Tr CV
  | 0 => .e
  | n + 1 => putEx (n * w) ex (putAll ex w n)
def hitX (b i : Nat) : List (Nat × CV) → Option CV
  | [] => none
  | (k, x) :: l => match hitX b i l with
    | some y => some y
    | none => if i = b + k then some x else none
theorem putEx_get (b i : Nat) : ∀ (l : List (Nat × CV)) (t : Tr CV), (putEx b l t).get i = match hitX b i l with | some y => some y | none => t.get i
  | [], t => rfl
  | (k, x) :: l, t => by
    simp only [putEx, hitX, putEx_get b i l, Tr.get_set]
    cases hitX b i l with
    | some y => rfl
    | none => by_cases e : i = b + k <;> simp [e]
theorem exc_out (d : CV) (b i : Nat) : ∀ (z : List CV) (s : Nat), (i < b + s ∨ b + s + z.length ≤ i) → hitX b i (exc d s z) = none
  | [], s, _ => rfl
  | x :: z, s, h => by
    simp only [List.length_cons] at h
    have ih := exc_out d b i z (s + 1) (by omega)
    simp only [exc]
    split
    · exact ih
    · simp only [hitX, ih]
      rw [if_neg (by omega)]
theorem exc_in (d : CV) (b i : Nat) : ∀ (z : List CV) (s j : Nat) (x : CV), i = b + s + j → z[j]? = some x → hitX b i (exc d s z) = some x ∨ (hitX b i (exc d s z) = none ∧ x = d)
  | [], s, j, x, _, hx => by simp at hx
  | y :: z, s, j, x, hi, hx => by
    simp only [exc]
    cases j with
    | zero =>
      simp only [List.getElem?_cons_zero, Option.some.injEq] at hx
      subst hx
      have ho := exc_out d b i z (s + 1) (by omega)
      split
      · rename_i h0
        exact .inr ⟨ho, i0.ok h0⟩
      · simp only [hitX, ho]
        rw [if_pos (by omega)]
        exact .inl rfl
    | succ j =>
      simp only [List.getElem?_cons_succ] at hx
      have ih := exc_in d b i z (s + 1) j x (by omega) hx
      split
      · exact ih
      · simp only [hitX]
        rcases ih with e | ⟨e, hd⟩
        · rw [e]; exact .inl rfl
        · rw [e]; simp only
          rw [if_neg (by omega)]
          exact .inr ⟨rfl, hd⟩
theorem putAll_out (d : CV) (z : List CV) (i : Nat) : ∀ n, n * z.length ≤ i → (putAll (exc d 0 z) z.length n).get i = none
  | 0, _ => rfl
  | n + 1, h => by
    have e : (n + 1) * z.length = n * z.length + z.length := Nat.succ_mul _ _
    simp only [putAll, putEx_get]
    rw [exc_out d _ i z 0 (by omega)]
    exact putAll_out d z i n (by omega)
theorem putAll_in (d : CV) (z : List CV) (i : Nat) (x : CV) (hx : z[i % z.length]? = some x) : ∀ n, i < n * z.length → atC d (putAll (exc d 0 z) z.length n) i = x
  | 0, h => by omega
  | n + 1, h => by
    have e : (n + 1) * z.length = n * z.length + z.length := Nat.succ_mul _ _
    by_cases hn : n * z.length ≤ i
    · have hj : i % z.length = i - n * z.length := by
        have h1 : i = (i - n * z.length) + z.length * n := by rw [Nat.mul_comm z.length n]; omega
        rw [h1, Nat.add_mul_mod_self_left, ← h1]
        exact Nat.mod_eq_of_lt (by omega)
      rw [hj] at hx
      unfold atC
      simp only [putAll, putEx_get]
      rcases exc_in d (n * z.length) i z 0 (i - n * z.length) x (by omega) hx with q | ⟨q, hd⟩
      · rw [q]
      · rw [q]; simp only
        rw [putAll_out d z i n hn]
        exact hd.symm
    · have ih := putAll_in d z i x hx n (by omega)
      unfold atC at ih ⊢
      simp only [putAll, putEx_get]
      rw [exc_out d _ i z 0 (by omega)]
      exact ih
theorem repL_get (zs : List Value) (i : Nat) : ∀ c, i < c * zs.length → (repL c zs)[i]? = zs[i % zs.length]?
  | 0, h => by omega
  | c + 1, h => by
    have e : (c + 1) * zs.length = c * zs.length + zs.length := Nat.succ_mul _ _
    rw [repL]
    by_cases hi : i < zs.length
    · rw [List.getElem?_append_left hi, Nat.mod_eq_of_lt hi]
    · rw [List.getElem?_append_right (by omega)]
      rw [repL_get zs (i - zs.length) c (by omega), ← Nat.mod_eq_sub_mod (show i ≥ zs.length by omega)]
theorem repL_len (zs : List Value) : ∀ c, (repL c zs).length = c * zs.length
  | 0 => by simp [repL]
  | c + 1 => by rw [repL, List.length_append, repL_len zs c, Nat.succ_mul, Nat.add_comm]
def rowZ (c : Nat) (z : List CV) (T : Nat) : CObj := .cells (c * z.length) (z.getLastD und) (putAll (exc (z.getLastD und) 0 z) z.length c) T

def cMake (P : Program) (t : TypeId) (x y : CV) (h : CH) : Option (CV × CH) := match P.underlying t, x, y with
  | some (.slice e), .int .i64 (.ofNat l), .int .i64 (.ofNat c) => (match P.info? e, zeroC P e with
    | some it, some z => (match Nat.beq z.length it.size && Nat.ble l c && Nat.ble c 9223372036854775807 && Nat.ble (it.bytes * c) (2 ^ 48) with
      | true => (match z with
        | [z0] => some (.sl h.n 0 l c false, h.add (.cells c z0 .e e))
        | z => some (.sl h.n 0 l c false, h.add (rowZ c z e)))
      | false => none)
    | _, _ => none)
  | _, _, _ => none
theorem repL_one (c : Nat) (z : Value) : repL c [z] = List.replicate c z := by
  induction c with
  | zero => rfl
  | succ n ih => rw [repL, ih]; rfl
theorem cMake.ok (R : Rl P H0 r h H) {t : TypeId} {x y z : CV} {v u : Value} {h' : CH} {K : Value → Heap → Prop} (hc : cMake P t x y h = some (z, h')) (hv : VR r x v) (hu : VR r y u) (hk : Out P H0 r h H z h' K) : MakeW P t v u H K := by
  unfold cMake at hc
  split at hc
  · rename_i e l c hty
    simp only [VR] at hv hu
    subst hv hu
    split at hc
    · rename_i it z' hi hz
      obtain ⟨zs, hzs, hvz⟩ := zeroC.ok hz r
      split at hc
      · rename_i hbb
        simp only [Bool.and_eq_true] at hbb
        obtain ⟨⟨⟨h1, h2⟩, h3⟩, h4⟩ := hbb
        refine MakeW.intro hty hi hzs (by rw [hvz.len]; exact beq_true h1) (Nat.le_of_ble_eq_true h2) (Nat.le_of_ble_eq_true h3) (Nat.le_of_ble_eq_true h4) fun m hm => ?_
        split at hc
        · rename_i z0
          cases hc
          simp only [VRs] at hvz
          obtain ⟨w, us, rfl, hw, rfl⟩ := hvz
          obtain ⟨R', E'⟩ := R.push (o := .cells c z0 .e e) (obj := .cells ⟨repL c [w]⟩ e) (x := ⟨m, 0, 0⟩) hm rfl ⟨_, upd_eq, by simp [repL_one], fun i hi => ⟨w, by
            simp only [List.getElem?_toArray, repL_one, Nat.zero_add]
            rw [List.getElem?_replicate, if_pos hi], VR.mono (Pre.push r _) _ _ hw⟩⟩
          refine hk _ _ _ E' R' ⟨⟨m, 0, 0⟩, ?_, rfl⟩
          rw [← R.len]; exact last_get _
        · cases hc
          have hlen : zs.length = z'.length := hvz.len
          obtain ⟨R', E'⟩ := R.push (o := rowZ c z' e) (obj := .cells ⟨repL c zs⟩ e) (x := ⟨m, 0, 0⟩) hm rfl ⟨_, upd_eq, by
            have := VRs.len (repC.ok hvz c)
            simp only [Nat.zero_mul, Nat.zero_add, Nat.add_zero]
            show c * z'.length ≤ (repL c zs).length
            rw [repL_len, hlen]; exact Nat.le_refl _, fun i hi => by
            have hw : 0 < z'.length := by
              cases hz' : z'.length with
              | zero => rw [hz'] at hi; omega
              | succ n => omega
            have hq : i % z'.length < z'.length := Nat.mod_lt _ hw
            obtain ⟨v, hv, e1⟩ := hvz.get _ _ (List.getElem?_eq_getElem hq)
            refine ⟨v, ?_, VR.mono (Pre.push r _) _ _ ?_⟩
            · simp only [List.getElem?_toArray, Nat.zero_add]
              rw [repL_get zs i c (by rw [hlen]; exact hi), hlen]; exact hv
            · rw [putAll_in _ z' i _ (List.getElem?_eq_getElem hq) c hi]; exact e1⟩
          refine hk _ _ _ E' R' ⟨⟨m, 0, 0⟩, ?_, rfl⟩
          rw [← R.len]; exact last_get _
      · cases hc
    · cases hc
  · cases hc
end
end Go.Ev
