/-
  Operations over plain data: places, slices, structs, new rows.
-/
import Derived.Test.YtcnbolonnlmlgaaDoorPw4
set_option linter.unusedSectionVars false
set_option linter.unusedSimpArgs false
set_option linter.unusedVariables false
namespace Go.Sh
variable [Laid]

/-! ### Places -/
def ixP (P : Program) (st : St) (t : TypeId) (x i : AV) (K : AV → Prop) : Prop :=
  match P.underlying t, x, i with
  | some (.slice e), .lst ks xs, .int _ n => match szOf P e with
    | some s => match Nat.beq s ks.length with
      | true => 0 ≤ n ∧ AtN xs n.toNat fun x => WfT ks x → K (.rdp (lvT ks x))
      | false => False
    | none => False
  | some (.slice e), .row id, .int _ n => match szOf P e with
    | some s => match st.σ[id]? with
      | some (.row _ _ ks xs) => match Nat.beq s ks.length with
        | true => 0 ≤ n ∧ n < xs.length ∧ K (.elm id s n.toNat 0)
        | false => False
      | some (.frz ks xs) => match Nat.beq s ks.length with
        | true => 0 ≤ n ∧ AtN xs n.toNat fun x => WfT ks x → K (.rdp (lvT ks x))
        | false => False
      | _ => False
    | none => False
  | some (.array len e), .ptr id off, .int _ (.ofNat m) => match szOf P e with
    | some s => match Nat.blt m len with
      | true => K (.ptr id (off + m * s))
      | false => False
    | none => False
  | some (.slice e), .osl id off len _, .int _ (.ofNat m) => match szOf P e with
    | some s => match Nat.blt m len with
      | true => K (.ptr id (off + m * s))
      | false => False
    | none => False
  | some (.array len e), .rdp cs, .int _ (.ofNat m) => match szOf P e with
    | some s => match Nat.blt m len with
      | true => K (.rdp (cs.drop (m * s)))
      | false => False
    | none => False
  | some (.array len e), .arr id, .int _ n => match szOf P e with
    | some s => 0 ≤ n ∧ n < (len : Int) ∧ K (.elm id s n.toNat 0)
    | none => False
  | _, _, _ => False

theorem rdp_drop {g : Gh} {H : Heap} {N : Nat} {cs : List AV} {b o d : Nat} {vs : List Value} (hz : g.Z b) (hs : SimL g H N cs vs) (hc : ∀ j, j < vs.length → H.cell ⟨b, o + j, none⟩ = vs[j]?) : SimV g H N (.rdp (cs.drop d)) (.pointer (some ⟨b, o + d, none⟩)) := by
  simp only [SimV]
  exact ⟨b, o + d, vs.drop d, rfl, hz, hs.drop d, drop_get hc⟩

theorem lst_ix {P : Program} {g : Gh} {H : Heap} {N : Nat} {ks : List Kd} {xs : List (Tp ks)} {v : Value} {t e : TypeId} {k : IntKind} {n : Int} {s : Nat} {K' : AV → Prop} {K : Value → Heap → Prop} (hu : P.underlying t = some (.slice e)) (hs : szOf P e = some s) (hsz : s = ks.length)
    (hv : CellOk g.Z H (.lst ks) xs v) (h0 : 0 ≤ n) (h : AtN xs n.toNat fun x => WfT ks x → K' (.rdp (lvT ks x))) (hk : ∀ a v, SimV g H N a v → K' a → K v H) : IdxAddrW P t v (.int k n) H K := by
  obtain ⟨x, hx, h⟩ := h.get
  obtain ⟨a, m, c, rfl, hl, _, _, hat⟩ := lst_at (N := N) hv
  obtain ⟨b, o, rfl, hz, hw, vs, hvl, hvs, hvc⟩ := hat _ x hx
  have hlt : n.toNat < xs.length := by
    rcases Nat.lt_or_ge n.toNat xs.length with h | h
    · exact h
    · rw [List.getElem?_eq_none h] at hx; cases hx
  unfold IdxAddrW
  simp only [hu, sizeK, hs]
  refine ⟨h0, by omega, ?_⟩
  refine hk _ _ ?_ (h hw)
  have := rdp_drop (d := 0) hz hvs hvc
  rw [hsz]
  simpa using this

theorem ixP_sound {P : Program} {E : En} {st : St} {ρ : Env} {H : Heap} {g : Gh} (s : Sim E st ρ H g) {t : TypeId} {x i : AV} {vx vi : Value} {K' : AV → Prop} {K : Value → Heap → Prop} (h : ixP P st t x i K') (hx : SimV g H st.σ.length x vx) (hi : SimV g H st.σ.length i vi)
    (hk : ∀ a v, SimV g H st.σ.length a v → K' a → K v H) : IdxAddrW P t vx vi H K := by
  unfold ixP at h
  split at h
  · rename_i e ks xs k n hu
    simp only [SimV] at hx hi
    obtain ⟨rfl, _⟩ := hi
    split at h
    · rename_i sz hs
      split at h
      · rename_i hsz
        exact lst_ix hu hs (Nat.eq_of_beq_eq_true hsz) hx h.1 h.2 hk
      · exact h.elim
    · exact h.elim
  · rename_i e id k n hu
    simp only [SimV] at hx hi
    obtain ⟨rfl, _⟩ := hi
    obtain ⟨hid, rfl, _⟩ := hx
    split at h
    · rename_i sz hs
      split at h
      · rename_i T r ks xs ho
        split at h
        · rename_i hsz
          have hsz := Nat.eq_of_beq_eq_true hsz
          obtain ⟨h0, h1, h⟩ := h
          obtain ⟨a, m, c, hV, hl, hm, _, h5⟩ := s.obj id _ ho
          obtain ⟨o5, rfl⟩ : ∃ o, a = some ⟨g.B id, o, none⟩ := by
            rcases h5 with ⟨_, h6⟩ | ⟨o, h6, _⟩
            · omega
            · exact ⟨o, h6⟩
          rw [hV]
          unfold IdxAddrW
          simp only [hu, sizeK, hs]
          refine ⟨h0, by omega, ?_⟩
          refine hk _ _ ?_ h
          simp only [SimV]
          exact ⟨hid, _, _, _, _, hV, by simp⟩
        · exact h.elim
      · rename_i ks xs ho
        split at h
        · rename_i hsz
          exact lst_ix hu hs (Nat.eq_of_beq_eq_true hsz) (s.obj id _ ho) h.1 h.2 hk
        · exact h.elim
      · exact h.elim
    · exact h.elim
  · rename_i len e id off k m hu
    simp only [SimV] at hx hi
    obtain ⟨rfl, _⟩ := hi
    obtain ⟨hid, rfl⟩ := hx
    split at h
    · rename_i sz hs
      split at h
      · rename_i hlt
        have hlt : m < len := by simpa using hlt
        unfold IdxAddrW
        simp only [hu, sizeK, hs]
        refine ⟨by simp, by simpa using hlt, ?_⟩
        refine hk _ _ ?_ h
        simp only [SimV]
        exact ⟨hid, by simp⟩
      · exact h.elim
    · exact h.elim
  · rename_i e id off len cap k m hu
    simp only [SimV] at hx hi
    obtain ⟨rfl, _⟩ := hi
    obtain ⟨hid, rfl⟩ := hx
    split at h
    · rename_i sz hs
      split at h
      · rename_i hlt
        have hlt : m < len := by simpa using hlt
        unfold IdxAddrW
        simp only [hu, sizeK, hs, NilP]
        refine ⟨by simp, by simpa using hlt, ?_⟩
        refine hk _ _ ?_ h
        simp only [SimV]
        exact ⟨hid, by simp⟩
      · exact h.elim
    · exact h.elim
  · rename_i len e cs k m hu
    simp only [SimV] at hx hi
    obtain ⟨rfl, _⟩ := hi
    obtain ⟨b, o, vs, rfl, hz, hvs, hvc⟩ := hx
    split at h
    · rename_i sz hs
      split at h
      · rename_i hlt
        have hlt : m < len := by simpa using hlt
        unfold IdxAddrW
        simp only [hu, sizeK, hs]
        refine ⟨by simp, by simpa using hlt, ?_⟩
        exact hk _ _ (by simpa using rdp_drop (d := m * sz) hz hvs hvc) h
      · exact h.elim
    · exact h.elim
  · rename_i len e id k n hu
    simp only [SimV] at hx hi
    obtain ⟨rfl, _⟩ := hi
    obtain ⟨hid, b, m, c, hV, rfl⟩ := hx
    split at h
    · rename_i sz hs
      obtain ⟨h0, h1, h⟩ := h
      unfold IdxAddrW
      simp only [hu, sizeK, hs]
      refine ⟨h0, h1, ?_⟩
      refine hk _ _ ?_ h
      simp only [SimV]
      exact ⟨hid, _, _, _, _, hV, by simp⟩
    · exact h.elim
  · exact h.elim

/-- An element of a string, or of an array at hand. -/
def inP (P : Program) (t : TypeId) (x i : AV) (K : AV → Prop) : Prop :=
  match P.underlying t, x, i with
  | some .string, .str l, .int _ n => 0 ≤ n ∧ AtN l n.toNat fun c => K (.int .u8 (c.toNat : Int))
  | some (.array len e), .agg cs, .int _ (.ofNat m) => match szOf P e, isAggB P e, Nat.blt m len with
    | some s, some true, true => K (.agg ((cs.drop (m * s)).take s))
    | some s, some false, true => match cs[m * s]? with
      | some a => K a
      | none => False
    | _, _, _ => False
  | _, _, _ => False
theorem inP_sound {P : Program} {g : Gh} {H : Heap} {N : Nat} {t : TypeId} {x i : AV} {vx vi : Value} {K' : AV → Prop} {K : Value → Heap → Prop} (h : inP P t x i K') (hx : SimV g H N x vx) (hi : SimV g H N i vi) (hk : ∀ a v, SimV g H N a v → K' a → K v H) : IdxW P t vx vi H K := by
  unfold inP at h
  split at h
  · rename_i l k n hu
    simp only [SimV] at hx hi
    obtain ⟨rfl, _⟩ := hi
    obtain ⟨rfl, _⟩ := hx
    obtain ⟨h0, h⟩ := h
    obtain ⟨c, hc, h⟩ := h.get
    have hlt : n.toNat < l.length := by
      rcases Nat.lt_or_ge n.toNat l.length with h | h
      · exact h
      · rw [List.getElem?_eq_none h] at hc; cases hc
    unfold IdxW
    simp only [hu]
    refine ⟨h0, by simp [bstr, ByteArray.size]; omega, ?_⟩
    have e : (bstr l).data.getD n.toNat 0 = c := by
      simp only [bstr, Array.getD_eq_getD_getElem?, List.getElem?_toArray, hc, Option.getD_some]
    show K (.int .u8 ((bstr l).data.getD n.toNat 0).toNat) H
    rw [e]
    exact hk _ _ (by simp only [SimV]; exact ⟨trivial, by have := UInt8.toNat_lt c; simp only [InR, loI, hiI]; omega⟩) h
  · rename_i len e cs k m hu
    simp only [SimV] at hx hi
    obtain ⟨rfl, _⟩ := hi
    obtain ⟨vs, rfl, hs⟩ := hx
    split at h
    · rename_i sz hsz hA hlt
      have hlt : m < len := by simpa using hlt
      unfold IdxW
      simp only [hu, sizeK, hsz, hA]
      refine ⟨by simp, by simpa using hlt, ?_⟩
      refine hk _ _ ?_ h
      simp only [SimV]
      exact ⟨_, rfl, (hs.drop _).take _⟩
    · rename_i sz hsz hA hlt
      have hlt : m < len := by simpa using hlt
      split at h
      · rename_i a ha
        obtain ⟨v, hv, hsv⟩ := hs.get ha
        unfold IdxW
        simp only [hu, sizeK, hsz, hA]
        refine ⟨by simp, by simpa using hlt, ?_⟩
        have : vs[(Int.ofNat m).toNat * sz]? = some v := by simpa using hv
        simp only [this]
        exact hk _ _ hsv h
      · exact h.elim
    · exact h.elim
  · exact h.elim

/-! ### Slices -/
def slN (hi : Option AV) (dflt bound : Nat) (k : Nat → Prop) : Prop := match hi with
  | none => k dflt
  | some (.int _ n) => 0 ≤ n ∧ n ≤ bound ∧ k n.toNat
  | some _ => False
/-- The part of a list from lo (if any) up to hi (if any). -/
def cut {A : Type} (xs : List A) (lo hi : Option AV) (K : List A → Prop) : Prop := match lo, hi with
  | none, none => K xs
  | none, some _ => slN hi 0 xs.length fun h => K (xs.take h)
  | some _, none => slN lo 0 xs.length fun l => K (xs.drop l)
  | some _, some _ => slN hi 0 xs.length fun h => slN lo 0 h fun l => K ((xs.take h).drop l)
theorem slN_of {g : Gh} {H : Heap} {N : Nat} {a : AV} {v : Value} {len cap d b : Nat} {k k' : Nat → Prop} (h : slN (some a) d b k) (ha : SimV g H N a v) (hb : b ≤ cap) (hk : ∀ n, n ≤ b → k n → k' n) : slHi (some v) len cap k' := by
  unfold slN at h
  split at h
  · rename_i e; cases e
  · rename_i n e
    cases e
    simp only [SimV] at ha
    obtain ⟨rfl, _⟩ := ha
    exact ⟨h.1, by omega, hk _ (by omega) h.2.2⟩
  · exact h.elim
def loK (vlo : Option Value) (k' : Nat → Option Nat → Prop) (n : Nat) : Prop := match vlo with
  | none => k' n none
  | some v => slHi (some v) 0 n fun l => k' n (some l)
theorem cut_of {A : Type} {g : Gh} {H : Heap} {N : Nat} {xs : List A} {lo hi : Option AV} {vlo vhi : Option Value} {K : List A → Prop} {cap : Nat} {k' : Nat → Option Nat → Prop} (h : cut xs lo hi K) (hl : ∀ a, lo = some a → ∃ v, vlo = some v ∧ SimV g H N a v) (hl0 : lo = none → vlo = none)
    (hh : ∀ a, hi = some a → ∃ v, vhi = some v ∧ SimV g H N a v) (hh0 : hi = none → vhi = none) (hc : xs.length ≤ cap)
    (hk0 : ∀ n, n ≤ xs.length → K (xs.take n) → k' n none) (hk1 : ∀ n l, n ≤ xs.length → l ≤ n → K ((xs.take n).drop l) → k' n (some l)) :
    slHi vhi xs.length cap (loK vlo k') := by
  unfold cut at h
  split at h
  · rw [hl0 rfl, hh0 rfl]
    exact hk0 _ (Nat.le_refl _) (by rw [List.take_length]; exact h)
  · rename_i a
    obtain ⟨v, rfl, hv⟩ := hh a rfl
    rw [hl0 rfl]
    exact slN_of h hv hc fun n hn h => hk0 n hn h
  · rename_i a
    obtain ⟨v, rfl, hv⟩ := hl a rfl
    rw [hh0 rfl]
    exact slN_of h hv (Nat.le_refl _) fun l hl h => hk1 _ l (Nat.le_refl _) hl (by rw [List.take_length]; exact h)
  · rename_i a b
    obtain ⟨v, rfl, hv⟩ := hl a rfl
    obtain ⟨u, rfl, hu⟩ := hh b rfl
    exact slN_of h hu hc fun n hn h => slN_of h hv (Nat.le_refl _) fun l hl h => hk1 n l hn hl h

/-- A bound that is a numeral. -/
def natA : Option AV → Nat → Option Nat
  | none, d => some d
  | some (.int _ (.ofNat m)), _ => some m
  | _, _ => none
theorem natA_hi {g : Gh} {H : Heap} {N : Nat} {lo : Option AV} {vlo : Option Value} {len cap m : Nat} {k : Nat → Prop} (h : natA lo len = some m) (h0 : lo = none → vlo = none) (h1 : ∀ b, lo = some b → ∃ v, vlo = some v ∧ SimV g H N b v) (hm : m ≤ cap) (hk : k m) : slHi vlo len cap k := by
  unfold natA at h
  split at h
  · cases h
    rw [h0 rfl]; exact hk
  · cases h
    obtain ⟨v, rfl, hv⟩ := h1 _ rfl
    simp only [SimV] at hv
    obtain ⟨rfl, _⟩ := hv
    exact ⟨by simp, by simp; omega, by simpa using hk⟩
  · cases h

def slP (P : Program) (st : St) (t : TypeId) (x : AV) (lo hi : Option AV) (mx : Option AV) (K : AV → St → Prop) : Prop :=
  match P.underlying t, x, mx with
  | some .string, .str l, none => cut l lo hi fun l' => K (.str l') st
  | some (.slice e), .lst ks xs, none => match szOf P e with
    | some s => match Nat.beq s ks.length with
      | true => cut xs lo hi fun ys => K (.lst ks ys) st
      | false => False
    | none => False
  | some (.slice e), .nils, none => match szOf P e, lo, hi with
    | some _, none, some (.int _ n) => 0 ≤ n ∧ n ≤ 0 ∧ K .nils st
    | _, _, _ => False
  | some (.slice e), .row id, none => match szOf P e, frzO st.σ (.row id) with
    | some s, some σ1 => match σ1[id]? with
      | some (.frz ks xs) => match Nat.beq s ks.length with
        | true => cut xs lo hi fun ys => K (.lst ks ys) ⟨st.α, σ1⟩
        | false => False
      | _ => False
    | _, _ => False
  | some (.array n e), .ptr id off, none => match szOf P e, natA lo 0, natA hi n with
    | some s, some l, some h => match Nat.ble l h && Nat.ble h n && Nat.blt l n with
      | true => K (.osl id (off + l * s) (h - l) (n - l)) st
      | false => False
    | _, _, _ => False
  | some (.slice e), .osl id off len cap, none => match szOf P e, natA lo 0, natA hi len with
    | some s, some l, some h => match Nat.ble l h && Nat.ble h cap && Nat.blt l cap with
      | true => K (.osl id (off + l * s) (h - l) (cap - l)) st
      | false => False
    | _, _, _ => False
  | _, _, _ => False

theorem lst_cut {g : Gh} {H : Heap} {ks : List Kd} {xs : List (Tp ks)} {a : Option Addr} {n c sz : Nat} (hsz : sz = ks.length) (h : CellOk g.Z H (.lst ks) xs (.slice a n c)) {h' : Nat} (hh : h' ≤ xs.length) :
    CellOk g.Z H (.lst ks) (xs.take h' : List (Tp ks)) (.slice a h' c) ∧ ∀ l, l ≤ h' → CellOk g.Z H (.lst ks) ((xs.take h').drop l : List (Tp ks)) (.slice (if c = l then a else a.map (·.add (l * sz))) (h' - l) (c - l)) := by
  simp only [CellOk] at h ⊢
  obtain ⟨_, _, _, e, h2, h3, h4, h5⟩ := h
  cases e
  simp only [asL] at h2
  refine ⟨⟨a, h', c, rfl, by simp [asL]; omega, by omega, h4, fun h0 => ?_⟩, fun l hl => ⟨_, _, _, rfl, by simp [asL]; omega, by omega, by omega, fun h0 => ?_⟩⟩
  · obtain ⟨b, o, ha, hz, cs, T, fr, hb, hc⟩ := h5 (by omega)
    refine ⟨b, o, ha, hz, cs, T, fr, hb, fun i x hx => hc i x ?_⟩
    simp only [asL] at hx ⊢
    rw [List.getElem?_take] at hx
    split at hx
    · exact hx
    · cases hx
  · obtain ⟨b, o, ha, hz, cs, T, fr, hb, hc⟩ := h5 (by omega)
    subst ha
    have hne : c ≠ l := by omega
    refine ⟨b, o + l * sz, ?_, hz, cs, T, fr, hb, fun i x hx => ?_⟩
    · rw [if_neg hne]
      simp only [Option.map_some]
      rw [add_of_spot rfl]
    · simp only [asL] at hx
      rw [List.getElem?_drop, List.getElem?_take] at hx
      split at hx
      · have := hc (l + i) x hx
        refine CellsOk.congr (fun j _ => ?_) this
        congr 1
        rw [hsz, Nat.add_mul]; omega
      · cases hx

theorem bstr_extract (l : List UInt8) {i j : Nat} (_ : i ≤ j) : (bstr l).extract i j = bstr ((l.take j).drop i) := by
  have : ((bstr l).extract i j).data = (bstr ((l.take j).drop i)).data := by
    rw [ByteArray.data_extract]
    apply Array.ext'
    simp only [bstr, Array.toList_extract, List.extract_eq_take_drop, List.drop_take]
  cases h1 : (bstr l).extract i j
  cases h2 : bstr ((l.take j).drop i)
  rw [h1, h2] at this
  simpa using this

theorem slP_sound {P : Program} {E : En} {st : St} {ρ : Env} {H : Heap} {g : Gh} (s : Sim E st ρ H g) {t : TypeId} {x : AV} {lo hi mx : Option AV} {vx : Value} {vlo vhi vmx : Option Value} {K' : AV → St → Prop} (h : slP P st t x lo hi mx K') (hx : SimV g H st.σ.length x vx)
    (hl : ∀ a, lo = some a → ∃ v, vlo = some v ∧ SimV g H st.σ.length a v) (hl0 : lo = none → vlo = none) (hh : ∀ a, hi = some a → ∃ v, vhi = some v ∧ SimV g H st.σ.length a v) (hh0 : hi = none → vhi = none) (hm0 : mx = none → vmx = none) :
    SliceW P t vx vlo vhi vmx H (Res E st ρ H g K') := by
  have core : ∀ (e : TypeId) (ks : List Kd) (xs : List (Tp ks)) (sz : Nat) (st1 : St) (g1 : Gh), P.underlying t = some (.slice e) → szOf P e = some sz → sz = ks.length → st1.α = st.α → Sim E st1 ρ H g1 → Rel st H g st1 H g1 → CellOk g1.Z H (.lst ks) xs vx →
      cut xs lo hi (fun ys => K' (.lst ks ys) st1) → SliceW P t vx vlo vhi none H (Res E st ρ H g K') := by
    intro e ks xs sz st1 g1 hu hsz hszk hα s1 r1 hc h
    have hc0 := hc
    simp only [CellOk] at hc0
    obtain ⟨a, n, c, rfl, h2, h3, h4, _⟩ := hc0
    simp only [asL] at h2
    unfold SliceW
    simp only [hu, sizeK, hsz]
    have := cut_of (cap := c) (k' := fun n l => match l with | none => Res E st ρ H g K' (.slice a n c) H | some l => Res E st ρ H g K' (.slice (if c = l then a else a.map (·.add (l * sz))) (n - l) (c - l)) H) h hl hl0 hh hh0 (by omega)
      (fun n hn hk => ⟨_, st1, g1, s1, r1, by simp only [SimV]; exact (lst_cut hszk hc hn).1, hα, hk⟩)
      (fun n l hn hl hk => ⟨_, st1, g1, s1, r1, by simp only [SimV]; exact (lst_cut hszk hc hn).2 l hl, hα, hk⟩)
    rw [h2] at this
    refine slHi.mono (fun n hn => ?_) this
    cases vlo with
    | none => exact hn
    | some v => exact hn
  unfold slP at h
  split at h
  · rename_i l hu
    rw [hm0 rfl]
    simp only [SimV] at hx
    obtain ⟨rfl, hlen⟩ := hx
    unfold SliceW
    simp only [hu]
    have sz : (bstr l).size = l.length := by simp [bstr, ByteArray.size]
    rw [sz]
    have := cut_of (cap := l.length) (k' := fun n l' => match l' with | none => Res E st ρ H g K' (.string ((bstr l).extract 0 n)) H | some i => Res E st ρ H g K' (.string ((bstr l).extract i n)) H) h hl hl0 hh hh0 (Nat.le_refl _)
      (fun n hn hk => Res.same s (a := .str (l.take n)) (by simp only [SimV]; exact ⟨by rw [bstr_extract l (Nat.zero_le _)]; simp, by simp; omega⟩) hk)
      (fun n i hn hi hk => Res.same s (a := .str ((l.take n).drop i)) (by simp only [SimV]; exact ⟨by rw [bstr_extract l hi], by simp; omega⟩) hk)
    refine slHi.mono (fun n hn => ?_) this
    cases vlo with
    | none => exact hn
    | some v => exact hn
  · rename_i e ks xs hu
    rw [hm0 rfl]
    split at h
    · rename_i sz hsz
      split at h
      · rename_i hb
        simp only [SimV] at hx
        exact core e ks xs sz st g hu hsz (Nat.eq_of_beq_eq_true hb) rfl s (.refl _ _ _) hx h
      · exact h.elim
    · exact h.elim
  · rename_i e hu
    rw [hm0 rfl]
    split at h
    · rename_i sz k n hsz
      obtain ⟨h1, h2, h⟩ := h
      obtain ⟨v, rfl, hv⟩ := hh _ rfl
      rw [hl0 rfl]
      simp only [SimV] at hv hx
      obtain ⟨rfl, _⟩ := hv
      subst hx
      unfold SliceW
      simp only [hu, sizeK, hsz]
      have e0 : n.toNat = 0 := by omega
      refine ⟨h1, by omega, ?_⟩
      rw [e0]
      exact Res.same s (a := .nils) (by simp only [SimV]) h
    · exact h.elim
  · rename_i e id hu
    rw [hm0 rfl]
    split at h
    · rename_i sz σ1 hsz hf
      obtain ⟨g1, s1, r1, l1, f1, _⟩ := frzO_sound s hf
      split at h
      · rename_i ks xs ho
        split at h
        · rename_i hb
          have hx1 := SimV.ext r1.len r1.ext _ _ hx
          simp only [SimV] at hx1
          have hc : CellOk g1.Z H (.lst ks) xs vx := by rw [hx1.2.1]; exact s1.obj id _ ho
          exact core e ks xs sz ⟨st.α, σ1⟩ g1 hu hsz (Nat.eq_of_beq_eq_true hb) rfl s1 r1 hc h
        · exact h.elim
      · exact h.elim
    · exact h.elim
  · rename_i n e id off hu
    rw [hm0 rfl]
    split at h
    · rename_i sz l hh' hsz hlo hhi
      split at h
      · rename_i hb
        simp only [Bool.and_eq_true] at hb
        have b1 := Nat.le_of_ble_eq_true hb.1.1
        have b2 := Nat.le_of_ble_eq_true hb.1.2
        have b3 : l < n := by simpa using hb.2
        simp only [SimV] at hx
        obtain ⟨hid, rfl⟩ := hx
        unfold SliceW
        simp only [hu, sizeK, hsz]
        refine natA_hi hhi hh0 hh b2 ?_
        cases vlo with
        | none =>
          have : l = 0 := by
            cases lo with
            | none => simpa [natA] using hlo.symm
            | some b => obtain ⟨v, hv, _⟩ := hl _ rfl; cases hv
          subst this
          exact Res.same s (a := .osl id (off + 0 * sz) (hh' - 0) (n - 0)) (by simp only [SimV]; exact ⟨hid, by simp⟩) h
        | some v =>
          refine natA_hi hlo hl0 hl b1 ?_
          rw [if_neg (by omega), add_of_spot rfl]
          exact Res.same s (a := .osl id (off + l * sz) (hh' - l) (n - l)) (by simp only [SimV]; exact ⟨hid, trivial⟩) h
      · exact h.elim
    · exact h.elim
  · rename_i e id off len cap hu
    rw [hm0 rfl]
    split at h
    · rename_i sz l hh' hsz hlo hhi
      split at h
      · rename_i hb
        simp only [Bool.and_eq_true] at hb
        have b1 := Nat.le_of_ble_eq_true hb.1.1
        have b2 := Nat.le_of_ble_eq_true hb.1.2
        have b3 : l < cap := by simpa using hb.2
        simp only [SimV] at hx
        obtain ⟨hid, rfl⟩ := hx
        unfold SliceW
        simp only [hu, sizeK, hsz]
        refine natA_hi hhi hh0 hh b2 ?_
        cases vlo with
        | none =>
          have : l = 0 := by
            cases lo with
            | none => simpa [natA] using hlo.symm
            | some b => obtain ⟨v, hv, _⟩ := hl _ rfl; cases hv
          subst this
          exact Res.same s (a := .osl id (off + 0 * sz) (hh' - 0) (cap - 0)) (by simp only [SimV]; exact ⟨hid, by simp⟩) h
        | some v =>
          refine natA_hi hlo hl0 hl b1 ?_
          rw [if_neg (by omega)]
          simp only [Option.map_some]
          rw [add_of_spot rfl]
          exact Res.same s (a := .osl id (off + l * sz) (hh' - l) (cap - l)) (by simp only [SimV]; exact ⟨hid, trivial⟩) h
      · exact h.elim
    · exact h.elim
  · exact h.elim

/-! ### Structs -/
def fillA (place : Nat → Option (Nat × Nat)) : List AV → List (Nat × AV) → Option (List AV)
  | cells, [] => some cells
  | cells, (i, v) :: rest => match place i with
    | none => none
    | some (off, size) => match cellyA v && (Nat.beq (cellsA v).length size && Nat.ble (off + (cellsA v).length) cells.length) with
      | true => fillA place (setA cells off (cellsA v)) rest
      | false => none
theorem fillA_sim {g : Gh} {H : Heap} {N : Nat} (place : Nat → Option (Nat × Nat)) : ∀ (parts : List (Nat × AV)) (pv : List (Nat × Value)) (cs : List AV) (vs : List Value) (r : List AV), fillA place cs parts = some r → pv.map (·.1) = parts.map (·.1) → SimL g H N (parts.map (·.2)) (pv.map (·.2)) → SimL g H N cs vs →
    ∃ us, fillL place vs pv = some us ∧ SimL g H N r us
  | [], [], cs, vs, r, h, _, _, hc => by simp only [fillA, Option.some.injEq] at h; subst h; exact ⟨vs, rfl, hc⟩
  | [], _ :: _, _, _, _, _, hm, _, _ => by simp at hm
  | _ :: _, [], _, _, _, _, hm, _, _ => by simp at hm
  | (i, a) :: parts, (i', v) :: pv, cs, vs, r, h, hm, hp, hc => by
    simp only [List.map_cons, List.cons.injEq] at hm
    obtain ⟨rfl, hm⟩ := hm
    simp only [List.map_cons, SimL] at hp
    simp only [fillA] at h
    split at h
    · cases h
    · rename_i off size hpl
      split at h
      · rename_i hcond
        simp only [Bool.and_eq_true] at hcond
        obtain ⟨hce, h1, h2⟩ := hcond
        obtain ⟨hs, _⟩ := cellsA_sim hce hp.1
        have hl := hs.len
        have hl2 := hc.len
        obtain ⟨us, hu, hr⟩ := fillA_sim place parts pv _ _ r h hm hp.2 (setA_sim (off := off) hs hc)
        refine ⟨us, ?_, hr⟩
        simp only [fillL, hpl]
        rw [← hl, h1, ← hl2, h2]
        exact hu
      · cases h

def zeroA (P : Program) (t : TypeId) : Option (List AV) := match zeroL P t with
  | some l => some (l.map ofV1)
  | none => none
theorem zeroA_sim {P : Program} {t : TypeId} {g : Gh} {H : Heap} {N : Nat} {cs : List AV} (h : zeroA P t = some cs) : ∃ vs, zeroL P t = some vs ∧ SimL g H N cs vs := by
  unfold zeroA at h
  split at h
  · rename_i l hl; cases h; exact ⟨l, hl, ofV1_simL l⟩
  · cases h
def buildA (P : Program) (t : TypeId) (parts : List (Nat × AV)) : Option (List AV) :=
  match P.underlying t with
  | some (.struct fs) => match zeroA P t, placesL P fs.toList with
    | some z, some pl => fillA (pl[·]?) z parts
    | _, _ => none
  | some (.array _ e) => match zeroA P t, szOf P e with
    | some z, some s => fillA (fun i => some (i * s, s)) z parts
    | _, _ => none
  | _ => none
theorem buildA_sim {P : Program} {t : TypeId} {g : Gh} {H : Heap} {N : Nat} {parts : List (Nat × AV)} {pv : List (Nat × Value)} {r : List AV} (h : buildA P t parts = some r) (hm : pv.map (·.1) = parts.map (·.1)) (hp : SimL g H N (parts.map (·.2)) (pv.map (·.2))) :
    ∃ us, buildL P t pv = some us ∧ SimL g H N r us := by
  unfold buildA at h
  unfold buildL
  split at h
  · rename_i fs hu
    rw [hu]
    split at h
    · rename_i z pl hz hpl
      obtain ⟨vs, hzl, hs⟩ := zeroA_sim (g := g) (H := H) (N := N) hz
      simp only [hzl, hpl]
      exact fillA_sim _ _ _ _ _ _ h hm hp hs
    · cases h
  · rename_i n e hu
    rw [hu]
    split at h
    · rename_i z sz hz hsz
      obtain ⟨vs, hzl, hs⟩ := zeroA_sim (g := g) (H := H) (N := N) hz
      simp only [hzl, hsz]
      exact fillA_sim _ _ _ _ _ _ h hm hp hs
    · cases h
  · cases h

/-! ### Rows -/
/-- A type's kinds, cell by cell. -/
def kdOf (P : Program) : Nat → TypeId → Option (List Kd)
  | 0, _ => none
  | d + 1, t => match P.underlying t with
    | some (.int k) => some [.int k]
    | some .bool => some [.bool]
    | some .string => some [.str]
    | some (.slice e) => match kdOf P d e with
      | some ks => some [.lst ks]
      | none => none
    | some (.struct fs) => fs.toList.foldr (fun f acc => match kdOf P d f.type, acc with
      | some ks, some r => some (ks ++ r)
      | _, _ => none) (some [])
    | some (.array n e) => match kdOf P d e with
      | some ks => some (List.replicate n ks).flatten
      | none => none
    | _ => none

/-- Cells as elements. -/
def unTs (ks : List Kd) : Nat → List AV → Option (List (Tp ks))
  | 0, [] => some []
  | 0, _ :: _ => none
  | n + 1, cs => match unT ks (cs.take ks.length), unTs ks n (cs.drop ks.length) with
    | some x, some r => some (x :: r)
    | _, _ => none
theorem unT_length : ∀ {ks : List Kd} {as : List AV} {x : Tp ks}, unT ks as = some x → as.length = ks.length
  | [], [], _, _ => rfl
  | [], _ :: _, _, h => by simp only [unT] at h; cases h
  | _ :: _, [], _, h => by simp only [unT] at h; cases h
  | k :: ks, a :: as, x, h => by
    simp only [unT] at h
    split at h
    · rename_i y z hy hz; simp [unT_length hz]
    · cases h
theorem unTs_sim {g : Gh} {H : Heap} {N : Nat} {ks : List Kd} : ∀ {n : Nat} {cs : List AV} {vs : List Value} {xs : List (Tp ks)}, unTs ks n cs = some xs → SimL g H N cs vs → xs.length = n ∧ vs.length = n * ks.length ∧ ∀ i x, xs[i]? = some x → CellsOk g.Z H ks x (fun j => vs[i * ks.length + j]?)
  | 0, [], vs, xs, h, hs => by
    simp only [unTs, Option.some.injEq] at h; subst h
    exact ⟨rfl, by rw [← hs.len]; simp, fun i x hx => by simp at hx⟩
  | 0, _ :: _, _, _, h, _ => by simp only [unTs] at h; cases h
  | n + 1, cs, vs, xs, h, hs => by
    simp only [unTs] at h
    split at h
    · rename_i x r hx hr
      cases h
      obtain ⟨h1, h2, h3⟩ := unTs_sim hr (hs.drop ks.length)
      have h4 := unT_sim hx (hs.take ks.length)
      have h5 := unT_length hx
      have h6 := hs.len
      simp only [List.length_take] at h5
      simp only [List.length_drop] at h2
      have hlen : vs.length = (n + 1) * ks.length := by rw [Nat.add_mul]; omega
      refine ⟨by simp [h1], hlen, fun i y hy => ?_⟩
      cases i with
      | zero =>
        simp at hy; subst hy
        refine CellsOk.congr (fun j hj => ?_) h4
        rw [Nat.zero_mul, Nat.zero_add, List.getElem?_take_of_lt hj]
      | succ i =>
        simp at hy
        refine CellsOk.congr (fun j hj => ?_) (h3 i y hy)
        rw [List.getElem?_drop]
        congr 1
        rw [Nat.add_mul]; omega
    · cases h

/-- A new row out of its cells. -/
theorem Sim.newRow {E : En} {st : St} {ρ : Env} {H : Heap} {g : Gh} (s : Sim E st ρ H g) {n : Nat} (hn : H n = none) {vs : List Value} {T : TypeId} {ks : List Kd} {xs : List (Tp ks)} {cap : Nat} {K : AV → St → Prop}
    (hle : xs.length ≤ cap) (hcap : cap ≤ lenMax) (hvl : vs.length = cap * ks.length) (hc : ∀ i x, xs[i]? = some x → CellsOk g.Z H ks x (fun j => vs[i * ks.length + j]?))
    (hk : K (.row st.σ.length) (st.new (.row T false ks xs))) : Res E st ρ H g K (.slice (some ⟨n, 0, none⟩) xs.length cap) (H.upd n (.cells ⟨vs⟩ T (0, 0))) := by
  obtain ⟨g', s', r', gB, gV⟩ := s.new (o := .row T false ks xs) (c := ⟨vs⟩) (T := T) hn (.slice (some ⟨n, 0, none⟩) xs.length cap) (fun g' hext hz hB hV => by
    simp only [SimO]
    refine ⟨_, _, _, hV, rfl, hle, hcap, .inr ⟨0, by rw [hB], ⟨vs⟩, T, by rw [hB]; exact Sh.upd_eq, by simp [hvl], fun i x hx => ?_⟩⟩
    refine CellsOk.ext hext.z _ _ _ (CellsOk.congr (fun j _ => ?_) (hc i x hx))
    simp)
  refine ⟨_, _, g', s', r', ?_, rfl, hk⟩
  simp only [SimV]
  exact ⟨by simp [St.new], gV.symm, _, _, _, rfl⟩

def rowA (P : Program) (e : TypeId) (len : Nat) (parts : List (Nat × AV)) : Option (List AV) :=
  match szOf P e with
  | some s => match len with
    | 0 => fillA (fun i => some (i * s, s)) [] parts
    | len + 1 => match zeroL P e with
      | some z => match Nat.beq z.length s && Nat.ble ((len + 1) * s) 16777216 with
        | true => fillA (fun i => some (i * s, s)) ((repL (len + 1) z).map ofV1) parts
        | false => none
      | none => none
  | none => none
theorem rowA_sim {P : Program} {e : TypeId} {len : Nat} {g : Gh} {H : Heap} {N : Nat} {parts : List (Nat × AV)} {pv : List (Nat × Value)} {r : List AV} (h : rowA P e len parts = some r) (hm : pv.map (·.1) = parts.map (·.1)) (hp : SimL g H N (parts.map (·.2)) (pv.map (·.2))) :
    ∃ us, rowL P e len pv = some us ∧ SimL g H N r us := by
  unfold rowA at h
  unfold rowL
  split at h
  · rename_i s hs
    rw [hs]
    simp only
    cases len with
    | zero => exact fillA_sim _ _ _ _ _ _ h hm hp (by simp only [SimL])
    | succ len =>
      simp only at h ⊢
      split at h
      · rename_i z hz
        rw [hz]
        simp only
        split at h
        · rename_i hc
          rw [hc]
          exact fillA_sim _ _ _ _ _ _ h hm hp (ofV1_simL _)
        · cases h
      · cases h
  · cases h

def newRowP (P : Program) (st : St) (t : TypeId) (len : Nat) (parts : List (Nat × AV)) (K : AV → St → Prop) : Prop :=
  match P.underlying t with
  | some (.slice e) => match rowA P e len parts, kdOf P 8 e with
    | some cs, some ks => match frzL st.σ cs with
      | some σ1 => match unTs ks len (cs.map (unrow σ1)) with
        | some xs => match Nat.ble len 1000000000 with
          | true => K (.row st.σ.length) ⟨st.α, σ1 ++ [.row e false ks xs]⟩
          | false => False
        | none => False
      | none => False
    | _, _ => False
  | _ => False

theorem newRowP_sound {P : Program} {E : En} {st : St} {ρ : Env} {H : Heap} {g : Gh} (s : Sim E st ρ H g) {t : TypeId} {len : Nat} {parts : List (Nat × AV)} {pv : List (Nat × Value)} {K : AV → St → Prop} (h : newRowP P st t len parts K) (hm : pv.map (·.1) = parts.map (·.1)) (hp : SimL g H st.σ.length (parts.map (·.2)) (pv.map (·.2))) :
    ∃ e l, P.underlying t = some (.slice e) ∧ rowL P e len pv = some l ∧ ∀ n, H n = none → Res E st ρ H g K (.slice (some ⟨n, 0, none⟩) len len) (H.upd n (.cells ⟨l⟩ e)) := by
  unfold newRowP at h
  split at h
  · rename_i e hu
    split at h
    · rename_i cs ks hr hks
      obtain ⟨us, hul, hs⟩ := rowA_sim hr hm hp
      split at h
      · rename_i σ1 hf
        obtain ⟨g1, s1, r1, l1, f1, _⟩ := frzL_sound cs st.σ σ1 g s hf
        split at h
        · rename_i xs hxs
          split at h
          · rename_i hble
            have hs1 := unrow_simL s1 f1 (SimL.ext r1.len r1.ext _ _ hs)
            obtain ⟨h1, h2, h3⟩ := unTs_sim hxs hs1
            refine ⟨e, us, hu, hul, fun n hn => ?_⟩
            have hl : len ≤ lenMax := by have := Nat.le_of_ble_eq_true hble; unfold lenMax; omega
            have := s1.newRow (T := e) (K := K) hn (vs := us) (xs := xs) (cap := len) (by omega) hl h2 h3 (by
              simp only [St.new]
              rw [l1]
              exact h)
            rw [h1] at this
            obtain ⟨a, st', g', sa, ra, va, ea, ka⟩ := this
            exact ⟨a, st', g', sa, r1.trans ra, va, ea, ka⟩
          · exact h.elim
        · exact h.elim
      · exact h.elim
    · exact h.elim
  · exact h.elim

end Go.Sh
