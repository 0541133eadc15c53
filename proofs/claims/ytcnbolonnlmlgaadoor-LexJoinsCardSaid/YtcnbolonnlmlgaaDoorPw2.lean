/-
  States of plain data, and how they stand for temporaries and a heap.
-/
import Derived.Test.YtcnbolonnlmlgaaDoorPw1
set_option linter.unusedSectionVars false
set_option linter.unusedSimpArgs false
set_option linter.unusedVariables false
namespace Go.Sh

structure St where
  α : Nat → AV
  σ : List AObj

def putA (α : Nat → AV) (d : Option Tmp) (a : AV) : Nat → AV :=
  match d with
  | some d => fun i => match Nat.beq i d with | true => a | false => α i
  | none => α
def St.put (st : St) (d : Option Tmp) (a : AV) : St := ⟨putA st.α d a, st.σ⟩
def St.obj (st : St) (id : Nat) (o : AObj) : St := ⟨st.α, st.σ.set id o⟩
def St.new (st : St) (o : AObj) : St := ⟨st.α, st.σ ++ [o]⟩
def St.N (st : St) : Nat := st.σ.length

/-- A call's entry: its heap, what it may turn of it, what is frozen. -/
structure En where
  H0 : Heap
  O0 : Nat → Prop
  Z0 : Nat → Prop
/-- Package-level variables: their blocks, and what they are known to hold. -/
class Laid where
  blocks : Nat → Bool
  ok : (Nat → Option Obj) → Prop
def layH [Laid] (H : Heap) : Nat → Option Obj := fun b => match Laid.blocks b with
  | true => H b
  | false => none
structure LayE [Laid] (E : En) : Prop where
  own : ∀ b, Laid.blocks b = true → ¬ E.O0 b
  live : ∀ b, Laid.blocks b = true → E.H0 b ≠ none
  ok : Laid.ok (layH E.H0)
variable [Laid]

def Has (g : Gh) (id : Nat) : AObj → Prop
  | .obj _ _ _ => True
  | .row _ _ _ _ => ∃ a n c, g.V id = .slice (some a) n c
  | .frz _ _ => False
  | .gone => False
def isRo : AObj → Bool
  | .obj _ r _ => r
  | .row _ r _ _ => r
  | .frz _ _ => true
  | .gone => false

def RowOk (g : Gh) (H : Heap) (_ : TypeId) (ks : List Kd) (xs : List (Tp ks)) (v : Value) (b : Nat) : Prop :=
  ∃ a n cap, v = .slice a n cap ∧ xs.length = n ∧ n ≤ cap ∧ cap ≤ lenMax ∧ ((a = none ∧ cap = 0) ∨ ∃ o, (a = some ⟨b, o, none⟩ ∧ ∃ c T', H b = some (.cells c T' (0, 0)) ∧ o + cap * ks.length ≤ c.size ∧
    ∀ i x, xs[i]? = some x → CellsOk g.Z H ks x (fun j => c[o + i * ks.length + j]?)))
def SimO (g : Gh) (H : Heap) (N : Nat) (id : Nat) : AObj → Prop
  | .obj T _ cs => ∃ vs, H (g.B id) = some (.cells ⟨vs⟩ T (0, 0)) ∧ SimL g H N cs vs
  | .row T _ ks xs => RowOk g H T ks xs (g.V id) (g.B id)
  | .frz ks xs => CellOk g.Z H (.lst ks) xs (g.V id)
  | .gone => True

structure Sim (E : En) (st : St) (ρ : Env) (H : Heap) (g : Gh) : Prop where
  tmp : ∀ t, SimV g H st.σ.length (st.α t) (ρ t)
  obj : ∀ id o, st.σ[id]? = some o → SimO g H st.σ.length id o
  nz : ∀ id o, st.σ[id]? = some o → Has g id o → ¬ g.Z (g.B id)
  dis : ∀ i j oi oj, i ≠ j → st.σ[i]? = some oi → st.σ[j]? = some oj → Has g i oi → Has g j oj → g.B i ≠ g.B j
  own : ∀ i o, st.σ[i]? = some o → Has g i o → E.O0 (g.B i) ∨ E.H0 (g.B i) = none
  keep : Keep E.O0 E.H0 H
  zsub : ∀ b, E.Z0 b → g.Z b
  znew : ∀ b, g.Z b → E.Z0 b ∨ E.H0 b = none ∨ E.O0 b
  zlive : ∀ b, g.Z b → H b ≠ none
  lay : LayE E
  zc : ∀ b, g.Z b → E.Z0 b ∨ ∀ ds, H b ≠ some (.deferred ds)

/-- A step: what may not be turned is as it was. -/
structure Rel (st : St) (H : Heap) (g : Gh) (st' : St) (H' : Heap) (g' : Gh) : Prop where
  len : st.σ.length ≤ st'.σ.length
  ext : Ext st.σ.length g H g' H'
  ro : ∀ id o, st.σ[id]? = some o → isRo o = true → st'.σ[id]? = some o ∧ (Has g id o → H' (g.B id) = H (g.B id))
theorem Rel.refl (st : St) (H : Heap) (g : Gh) : Rel st H g st H g := ⟨Nat.le_refl _, .refl _ _ _, fun _ _ h _ => ⟨h, fun _ => rfl⟩⟩
theorem get_lt {l : List AObj} {i : Nat} {o : AObj} (h : l[i]? = some o) : i < l.length := by
  rcases Nat.lt_or_ge i l.length with h' | h'
  · exact h'
  · rw [List.getElem?_eq_none h'] at h; cases h
theorem Has.ext {N : Nat} {g g' : Gh} {H H' : Heap} (h : Ext N g H g' H') {id : Nat} (hi : id < N) {o : AObj} : Has g' id o ↔ Has g id o := by
  cases o <;> simp only [Has]
  rw [h.v id hi]
theorem Rel.trans {st st1 st2 : St} {H H1 H2 : Heap} {g g1 g2 : Gh} (h : Rel st H g st1 H1 g1) (k : Rel st1 H1 g1 st2 H2 g2) : Rel st H g st2 H2 g2 := by
  refine ⟨Nat.le_trans h.len k.len, h.ext.trans h.len k.ext, fun id o ho hr => ?_⟩
  obtain ⟨h1, h2⟩ := h.ro id o ho hr
  obtain ⟨k1, k2⟩ := k.ro id o h1 hr
  refine ⟨k1, fun hh => ?_⟩
  have hb := h.ext.b id (get_lt ho)
  have := k2 ((Has.ext h.ext (get_lt ho)).2 hh)
  rw [hb] at this
  rw [this, h2 hh]
theorem Rel.tmp {st : St} {H : Heap} {g : Gh} {st' : St} {H' : Heap} {g' : Gh} (h : Rel st H g st' H' g') {α α' : Nat → AV} : Rel ⟨α, st.σ⟩ H g ⟨α', st'.σ⟩ H' g' := ⟨h.len, h.ext, h.ro⟩

theorem Sim.put {E : En} {st : St} {ρ : Env} {H : Heap} {g : Gh} (s : Sim E st ρ H g) (d : Option Tmp) {a : AV} {v : Value} (h : SimV g H st.σ.length a v) : Sim E (st.put d a) (put ρ d v) H g := by
  refine { s with tmp := fun t => ?_ }
  simp only [St.put]
  cases d with
  | none => exact s.tmp t
  | some d =>
    simp only [putA, Sh.put]
    cases hb : Nat.beq t d with
    | true => exact h
    | false => exact s.tmp t

theorem SimO.ext {N N' : Nat} (hn : N ≤ N') {g g' : Gh} {H H' : Heap} (h : Ext N g H g' H') {id : Nat} (hi : id < N) {o : AObj} (hb : Has g id o → H' (g.B id) = H (g.B id)) (ho : SimO g H N id o) : SimO g' H' N' id o := by
  cases o with
  | obj T r cs =>
    obtain ⟨vs, h1, h2⟩ := ho
    exact ⟨vs, by rw [h.b id hi, hb trivial]; exact h1, SimL.ext hn h _ _ h2⟩
  | row T r ks xs =>
    simp only [SimO, RowOk] at ho ⊢
    obtain ⟨a, n, cap, h1, h2, h3, h4, h5⟩ := ho
    refine ⟨a, n, cap, by rw [h.v id hi]; exact h1, h2, h3, h4, h5.imp (fun h => h) fun h5 => ?_⟩
    obtain ⟨o, h6, c, T', h7, h8, h9⟩ := h5
    exact ⟨o, by rw [h.b id hi]; exact h6, c, T', by rw [h.b id hi, hb ⟨_, n, cap, by rw [h1, h6]⟩]; exact h7, h8, fun i x hx => CellsOk.ext h.z _ _ _ (h9 i x hx)⟩
  | frz ks xs => simp only [SimO] at ho ⊢; rw [h.v id hi]; exact CellOk.ext h.z _ _ _ ho
  | gone => trivial

theorem zc_ext {Z0 Z : Nat → Prop} {H H' : Heap} (h : ∀ b, Z b → Z0 b ∨ ∀ ds, H b ≠ some (.deferred ds)) (he : ∀ b, Z b → H' b = H b) : ∀ b, Z b → Z0 b ∨ ∀ ds, H' b ≠ some (.deferred ds) :=
  fun b hb => by rw [he b hb]; exact h b hb
/-- A new object in a new block. -/
theorem Sim.new {E : En} {st : St} {ρ : Env} {H : Heap} {g : Gh} (s : Sim E st ρ H g) {n : Nat} (hn : H n = none) {c : Array Value} {T : TypeId} (v : Value) {o : AObj}
    (ho : ∀ g', Ext st.σ.length g H g' (H.upd n (.cells c T (0, 0))) → g'.Z = g.Z → g'.B st.σ.length = n → g'.V st.σ.length = v → SimO g' (H.upd n (.cells c T (0, 0))) (st.σ.length + 1) st.σ.length o) :
    ∃ g', Sim E (st.new o) ρ (H.upd n (.cells c T (0, 0))) g' ∧ Rel st H g (st.new o) (H.upd n (.cells c T (0, 0))) g' ∧ g'.B st.σ.length = n ∧ g'.V st.σ.length = v := by
  have hzn : ¬ g.Z n := fun h => s.zlive n h hn
  have hE : E.H0 n = none := s.keep.free hn
  let g' : Gh := ⟨g.Z, fun i => if i = st.σ.length then n else g.B i, fun i => if i = st.σ.length then v else g.V i⟩
  have hext : Ext st.σ.length g H g' (H.upd n (.cells c T (0, 0))) :=
    ⟨fun b hb => ⟨hb, upd_ne fun e => by subst e; exact hzn hb⟩, fun i hi => if_neg (by omega), fun i hi => if_neg (by omega)⟩
  have gB : g'.B st.σ.length = n := if_pos rfl
  have gV : g'.V st.σ.length = v := if_pos rfl
  have hlen : (st.new o).σ.length = st.σ.length + 1 := by simp [St.new]
  have old : ∀ i oi, (st.new o).σ[i]? = some oi → (i < st.σ.length ∧ st.σ[i]? = some oi) ∨ (i = st.σ.length ∧ oi = o) := by
    intro i oi hi
    simp only [St.new] at hi
    rcases Nat.lt_trichotomy i st.σ.length with h | h | h
    · exact .inl ⟨h, by rw [List.getElem?_append_left h] at hi; exact hi⟩
    · subst h
      rw [List.getElem?_append_right (Nat.le_refl _)] at hi
      simp at hi
      exact .inr ⟨rfl, hi.symm⟩
    · rw [List.getElem?_eq_none (by simp; omega)] at hi; cases hi
  have live : ∀ i oi, st.σ[i]? = some oi → Has g i oi → g.B i ≠ n := by
    intro i oi hi hh e
    have ho := s.obj i oi hi
    cases oi with
    | obj T' r cs => obtain ⟨vs, h1, _⟩ := ho; rw [e, hn] at h1; cases h1
    | row T' r ks xs =>
      obtain ⟨a, m, cap, h1, _, _, _, h5⟩ := ho
      obtain ⟨a', n', c', h'⟩ := hh
      rw [h1] at h'
      cases h'
      rcases h5 with ⟨h, _⟩ | ⟨_, _, c, T', h7, _⟩
      · cases h
      · rw [e, hn] at h7; cases h7
    | frz => exact hh.elim
    | gone => exact hh.elim
  refine ⟨g', ⟨fun t => ?_, fun i oi hi => ?_, fun i oi hi hh => ?_, fun i j oi oj hij hi hj hhi hhj => ?_, fun i oi hi hh => ?_, ?_, s.zsub, s.znew, fun b hb => ?_, s.lay, zc_ext s.zc fun b hb => (hext.z b hb).2⟩, ⟨by omega, hext, fun i oi hi hr => ⟨?_, fun hh => ?_⟩⟩, gB, gV⟩
  · rw [hlen]; exact SimV.ext (Nat.le_succ _) hext _ _ (s.tmp t)
  · rw [hlen]
    rcases old i oi hi with ⟨h1, h2⟩ | ⟨rfl, rfl⟩
    · exact SimO.ext (Nat.le_succ _) hext h1 (fun hh => upd_ne (live i oi h2 hh)) (s.obj i oi h2)
    · exact ho g' hext rfl gB gV
  · rcases old i oi hi with ⟨h1, h2⟩ | ⟨rfl, rfl⟩
    · rw [hext.b i h1]; exact s.nz i oi h2 ((Has.ext hext h1).1 hh)
    · rw [gB]; exact hzn
  · rcases old i oi hi with ⟨h1, h2⟩ | ⟨rfl, rfl⟩
    · rcases old j oj hj with ⟨h3, h4⟩ | ⟨rfl, rfl⟩
      · rw [hext.b i h1, hext.b j h3]; exact s.dis i j oi oj hij h2 h4 ((Has.ext hext h1).1 hhi) ((Has.ext hext h3).1 hhj)
      · rw [gB, hext.b i h1]; exact live i oi h2 ((Has.ext hext h1).1 hhi)
    · rcases old j oj hj with ⟨h3, h4⟩ | ⟨rfl, rfl⟩
      · rw [gB, hext.b j h3]; exact fun e => live j oj h4 ((Has.ext hext h3).1 hhj) e.symm
      · exact absurd rfl hij
  · rcases old i oi hi with ⟨h1, h2⟩ | ⟨rfl, rfl⟩
    · rw [hext.b i h1]; exact s.own i oi h2 ((Has.ext hext h1).1 hh)
    · rw [gB]; exact .inr hE
  · exact s.keep.new hn
  · by_cases e : b = n
    · subst e; exact absurd hb hzn
    · rw [upd_ne e]; exact s.zlive b hb
  · simp only [St.new]; rw [List.getElem?_append_left (get_lt hi)]; exact hi
  · exact upd_ne (live i oi hi hh)

/-- The block of an object is there. -/
theorem Sim.live {E : En} {st : St} {ρ : Env} {H : Heap} {g : Gh} (s : Sim E st ρ H g) {i : Nat} {o : AObj} (hi : st.σ[i]? = some o) (hh : Has g i o) : ∃ c T, H (g.B i) = some (.cells c T (0, 0)) := by
  have ho := s.obj i o hi
  cases o with
  | obj T' r cs => obtain ⟨vs, h1, _⟩ := ho; exact ⟨_, _, h1⟩
  | row T' r ks xs =>
    obtain ⟨a, m, cap, h1, _, _, _, h5⟩ := ho
    obtain ⟨a', n', c', h'⟩ := hh
    rw [h1] at h'
    cases h'
    rcases h5 with ⟨h, _⟩ | ⟨_, _, c, T', h7, _⟩
    · cases h
    · exact ⟨_, _, h7⟩
  | frz => exact hh.elim
  | gone => exact hh.elim

/-- An object's own block is turned. -/
theorem Sim.turn {E : En} {st : St} {ρ : Env} {H : Heap} {g : Gh} (s : Sim E st ρ H g) {id : Nat} {o o' : AObj} (hi : st.σ[id]? = some o) (hr : isRo o = false) (hh : Has g id o) {H' : Heap}
    (hs : ∀ b, b ≠ g.B id → H' b = H b) (hl : H' (g.B id) ≠ none) (hh' : Has g id o' → True) (ho : Ext st.σ.length g H g H' → SimO g H' st.σ.length id o') :
    Sim E (st.obj id o') ρ H' g ∧ Rel st H g (st.obj id o') H' g := by
  have hz := s.nz id o hi hh
  have hext : Ext st.σ.length g H g H' := ⟨fun b hb => ⟨hb, hs b fun e => by subst e; exact hz hb⟩, fun _ _ => rfl, fun _ _ => rfl⟩
  have hlt := get_lt hi
  have hlen : (st.obj id o').σ.length = st.σ.length := by simp [St.obj]
  have old : ∀ i oi, (st.obj id o').σ[i]? = some oi → (i ≠ id ∧ st.σ[i]? = some oi) ∨ (i = id ∧ oi = o') := by
    intro i oi hi'
    simp only [St.obj, List.getElem?_set] at hi'
    by_cases e : id = i
    · subst e; rw [if_pos rfl, if_pos hlt] at hi'; cases hi'; exact .inr ⟨rfl, rfl⟩
    · rw [if_neg e] at hi'; exact .inl ⟨fun e' => e e'.symm, hi'⟩
  refine ⟨⟨fun t => ?_, fun i oi hi' => ?_, fun i oi hi' hhi => ?_, fun i j oi oj hij hi' hj hhi hhj => ?_, fun i oi hi' hhi => ?_, ?_, s.zsub, s.znew, fun b hb => ?_, s.lay, zc_ext s.zc fun b hb => (hext.z b hb).2⟩, ⟨by omega, hext, fun i oi hi' hr' => ?_⟩⟩
  · rw [hlen]; exact SimV.ext (Nat.le_refl _) hext _ _ (s.tmp t)
  · rw [hlen]
    rcases old i oi hi' with ⟨h1, h2⟩ | ⟨rfl, rfl⟩
    · exact SimO.ext (Nat.le_refl _) hext (get_lt h2) (fun hhi => hs _ (s.dis i id oi o h1 h2 hi hhi hh)) (s.obj i oi h2)
    · exact ho hext
  · rcases old i oi hi' with ⟨h1, h2⟩ | ⟨rfl, rfl⟩
    · exact s.nz i oi h2 hhi
    · exact hz
  · rcases old i oi hi' with ⟨h1, h2⟩ | ⟨rfl, rfl⟩
    · rcases old j oj hj with ⟨h3, h4⟩ | ⟨rfl, rfl⟩
      · exact s.dis i j oi oj hij h2 h4 hhi hhj
      · exact s.dis i j oi o hij h2 hi hhi hh
    · rcases old j oj hj with ⟨h3, h4⟩ | ⟨rfl, rfl⟩
      · exact s.dis i j o oj hij hi h4 hh hhj
      · exact absurd rfl hij
  · rcases old i oi hi' with ⟨h1, h2⟩ | ⟨rfl, rfl⟩
    · exact s.own i oi h2 hhi
    · exact s.own i o hi hh
  · refine ⟨fun b hb h0 => ?_, fun b h0 => ?_⟩
    · by_cases e : b = g.B id
      · rcases s.own id o hi hh with h | h
        · rw [← e] at h; exact absurd h hb
        · rw [← e] at h; exact absurd h h0
      · rw [hs b e]; exact s.keep.same b hb h0
    · by_cases e : b = g.B id
      · rw [e]; exact hl
      · rw [hs b e]; exact s.keep.live b h0
  · rw [hs b fun e => by subst e; exact hz hb]; exact s.zlive b hb
  · have hne : i ≠ id := fun e => by subst e; rw [hi] at hi'; cases hi'; rw [hr] at hr'; cases hr'
    refine ⟨?_, fun hhi => hs _ (s.dis i id oi o hne hi' hi hhi hh)⟩
    simp only [St.obj, List.getElem?_set]
    rw [if_neg (fun e => hne e.symm)]; exact hi'

/-- An object is let go. -/
theorem Sim.drop {E : En} {st : St} {ρ : Env} {H : Heap} {g : Gh} (s : Sim E st ρ H g) {id : Nat} {o : AObj} (hi : st.σ[id]? = some o) (hr : isRo o = false) :
    Sim E (st.obj id .gone) ρ H g ∧ Rel st H g (st.obj id .gone) H g := by
  have hlt := get_lt hi
  have hlen : (st.obj id .gone).σ.length = st.σ.length := by simp [St.obj]
  have old : ∀ i oi, (st.obj id .gone).σ[i]? = some oi → (i ≠ id ∧ st.σ[i]? = some oi) ∨ (i = id ∧ oi = .gone) := by
    intro i oi hi'
    simp only [St.obj, List.getElem?_set] at hi'
    by_cases e : id = i
    · subst e; rw [if_pos rfl, if_pos hlt] at hi'; cases hi'; exact .inr ⟨rfl, rfl⟩
    · rw [if_neg e] at hi'; exact .inl ⟨fun e' => e e'.symm, hi'⟩
  refine ⟨⟨fun t => ?_, fun i oi hi' => ?_, fun i oi hi' hhi => ?_, fun i j oi oj hij hi' hj hhi hhj => ?_, fun i oi hi' hhi => ?_, s.keep, s.zsub, s.znew, s.zlive, s.lay, s.zc⟩, ⟨by omega, .refl _ _ _, fun i oi hi' hr' => ⟨?_, fun _ => rfl⟩⟩⟩
  · rw [hlen]; exact s.tmp t
  · rw [hlen]
    rcases old i oi hi' with ⟨h1, h2⟩ | ⟨rfl, rfl⟩
    · exact s.obj i oi h2
    · trivial
  · rcases old i oi hi' with ⟨h1, h2⟩ | ⟨rfl, rfl⟩
    · exact s.nz i oi h2 hhi
    · exact hhi.elim
  · rcases old i oi hi' with ⟨h1, h2⟩ | ⟨rfl, rfl⟩
    · rcases old j oj hj with ⟨h3, h4⟩ | ⟨rfl, rfl⟩
      · exact s.dis i j oi oj hij h2 h4 hhi hhj
      · exact hhj.elim
    · exact hhi.elim
  · rcases old i oi hi' with ⟨h1, h2⟩ | ⟨rfl, rfl⟩
    · exact s.own i oi h2 hhi
    · exact hhi.elim
  · have hne : i ≠ id := fun e => by subst e; rw [hi] at hi'; cases hi'; rw [hr] at hr'; cases hr'
    simp only [St.obj, List.getElem?_set]
    rw [if_neg (fun e => hne e.symm)]; exact hi'

/-- A row is frozen: it is read alone from now on. -/
theorem Sim.freeze {E : En} {st : St} {ρ : Env} {H : Heap} {g : Gh} (s : Sim E st ρ H g) {id : Nat} {T : TypeId} {ks : List Kd} {xs : List (Tp ks)} (hi : st.σ[id]? = some (.row T false ks xs)) :
    ∃ g', Sim E (st.obj id (.frz ks xs)) ρ H g' ∧ Rel st H g (st.obj id (.frz ks xs)) H g' ∧ g'.V = g.V ∧ g'.B = g.B := by
  have hlt := get_lt hi
  have hlen : (st.obj id (.frz ks xs)).σ.length = st.σ.length := by simp [St.obj]
  have old : ∀ i oi, (st.obj id (.frz ks xs)).σ[i]? = some oi → (i ≠ id ∧ st.σ[i]? = some oi) ∨ (i = id ∧ oi = .frz ks xs) := by
    intro i oi hi'
    simp only [St.obj, List.getElem?_set] at hi'
    by_cases e : id = i
    · subst e; rw [if_pos rfl, if_pos hlt] at hi'; cases hi'; exact .inr ⟨rfl, rfl⟩
    · rw [if_neg e] at hi'; exact .inl ⟨fun e' => e e'.symm, hi'⟩
  let g' : Gh := ⟨fun b => g.Z b ∨ (b = g.B id ∧ Has g id (.row T false ks xs)), g.B, g.V⟩
  have hext : Ext st.σ.length g H g' H := ⟨fun b hb => ⟨.inl hb, rfl⟩, fun _ _ => rfl, fun _ _ => rfl⟩
  have hrow := s.obj id _ hi
  refine ⟨g', ⟨fun t => ?_, fun i oi hi' => ?_, fun i oi hi' hhi => ?_, fun i j oi oj hij hi' hj hhi hhj => ?_, fun i oi hi' hhi => ?_, s.keep, fun b hb => .inl (s.zsub b hb), fun b hb => ?_, fun b hb => ?_, s.lay, fun b hb => ?_⟩, ⟨by omega, hext, fun i oi hi' hr' => ⟨?_, fun _ => rfl⟩⟩, rfl, rfl⟩
  · rw [hlen]; exact SimV.ext (Nat.le_refl _) hext _ _ (s.tmp t)
  · rw [hlen]
    rcases old i oi hi' with ⟨h1, h2⟩ | ⟨rfl, rfl⟩
    · exact SimO.ext (Nat.le_refl _) hext (get_lt h2) (fun _ => rfl) (s.obj i oi h2)
    · obtain ⟨a, n, cap, h1, h2, h3, h4, h5⟩ := hrow
      simp only [SimO, CellOk]
      refine ⟨a, n, cap, h1, h2, h3, h4, fun h0 => ?_⟩
      rcases h5 with ⟨rfl, h6⟩ | ⟨o, h6, c, T', h7, h8, h9⟩
      · omega
      · refine ⟨g.B i, o, h6, .inr ⟨rfl, ⟨_, n, cap, by rw [h1, h6]⟩⟩, c, T', _, h7, fun j x hx => ?_⟩
        exact CellsOk.ext hext.z _ _ _ (h9 j x hx)
  · rcases old i oi hi' with ⟨h1, h2⟩ | ⟨rfl, rfl⟩
    · rintro (hz | ⟨hz, hh⟩)
      · exact s.nz i oi h2 hhi hz
      · exact s.dis i id oi _ h1 h2 hi hhi hh hz
    · exact hhi.elim
  · rcases old i oi hi' with ⟨h1, h2⟩ | ⟨rfl, rfl⟩
    · rcases old j oj hj with ⟨h3, h4⟩ | ⟨rfl, rfl⟩
      · exact s.dis i j oi oj hij h2 h4 hhi hhj
      · exact hhj.elim
    · exact hhi.elim
  · rcases old i oi hi' with ⟨h1, h2⟩ | ⟨rfl, rfl⟩
    · exact s.own i oi h2 hhi
    · exact hhi.elim
  · rcases hb with hb | ⟨rfl, hh⟩
    · exact s.znew b hb
    · rcases s.own id _ hi hh with h | h
      · exact .inr (.inr h)
      · exact .inr (.inl h)
  · rcases hb with hb | ⟨rfl, hh⟩
    · exact s.zlive b hb
    · obtain ⟨c, T', h⟩ := s.live hi hh
      rw [h]; simp
  · rcases hb with hb | ⟨rfl, hh⟩
    · exact s.zc b hb
    · obtain ⟨c, T', h⟩ := s.live hi hh
      exact .inr fun ds e => by rw [h] at e; cases e
  · have hne : i ≠ id := fun e => by subst e; rw [hi] at hi'; cases hi'; cases hr'
    simp only [St.obj, List.getElem?_set]
    rw [if_neg (fun e => hne e.symm)]; exact hi'

end Go.Sh
