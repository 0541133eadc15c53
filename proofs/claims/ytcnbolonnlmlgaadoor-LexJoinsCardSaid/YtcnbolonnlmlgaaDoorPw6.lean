/-
  Operations over plain data: append, make, conversions.
-/
import Derived.Test.YtcnbolonnlmlgaaDoorPw5
set_option linter.unusedSectionVars false
set_option linter.unusedSimpArgs false
set_option linter.unusedVariables false
namespace Go.Sh
variable [Laid]

/-- An object without a block, or one that takes another one's block over. -/
theorem Sim.renew {E : En} {st : St} {ρ : Env} {H : Heap} {g : Gh} (s : Sim E st ρ H g) {id : Nat} {o : AObj} (hi : st.σ[id]? = some o) (hr : isRo o = false) {H' : Heap} (v : Value) {o' : AObj}
    (hh : (Has g id o ∧ (∀ b, b ≠ g.B id → H' b = H b) ∧ H' (g.B id) ≠ none) ∨ (H' = H ∧ ∀ g' : Gh, g'.V st.σ.length = v → ¬ Has g' st.σ.length o'))
    (ho : ∀ g', Ext st.σ.length g H g' H' → g'.Z = g.Z → g'.B st.σ.length = g.B id → g'.V st.σ.length = v → SimO g' H' (st.σ.length + 1) st.σ.length o') :
    ∃ g', Sim E ⟨st.α, st.σ.set id .gone ++ [o']⟩ ρ H' g' ∧ Rel st H g ⟨st.α, st.σ.set id .gone ++ [o']⟩ H' g' ∧ g'.B st.σ.length = g.B id ∧ g'.V st.σ.length = v := by
  let N := st.σ.length
  have hlt := get_lt hi
  let g' : Gh := ⟨g.Z, fun i => if i = st.σ.length then g.B id else g.B i, fun i => if i = st.σ.length then v else g.V i⟩
  have gB : g'.B st.σ.length = g.B id := if_pos rfl
  have gV : g'.V st.σ.length = v := if_pos rfl
  have hz : ∀ b, g.Z b → H' b = H b := fun b hb => by
    rcases hh with ⟨h1, h2, _⟩ | ⟨rfl, _⟩
    · exact h2 b fun e => by subst e; exact s.nz id o hi h1 hb
    · rfl
  have hext : Ext st.σ.length g H g' H' := ⟨fun b hb => ⟨hb, hz b hb⟩, fun i hi => if_neg (by omega), fun i hi => if_neg (by omega)⟩
  have hlen : (st.σ.set id .gone ++ [o']).length = st.σ.length + 1 := by simp
  have old : ∀ i oi, (st.σ.set id .gone ++ [o'])[i]? = some oi → (i < st.σ.length ∧ i ≠ id ∧ st.σ[i]? = some oi) ∨ (i = id ∧ oi = .gone) ∨ (i = st.σ.length ∧ oi = o') := by
    intro i oi hi'
    rcases Nat.lt_trichotomy i st.σ.length with h | h | h
    · rw [List.getElem?_append_left (by simpa using h), List.getElem?_set] at hi'
      by_cases e : id = i
      · subst e; rw [if_pos rfl, if_pos hlt] at hi'; cases hi'; exact .inr (.inl ⟨rfl, rfl⟩)
      · rw [if_neg e] at hi'; exact .inl ⟨h, fun e' => e e'.symm, hi'⟩
    · subst h
      rw [List.getElem?_append_right (by simp)] at hi'
      simp at hi'
      exact .inr (.inr ⟨rfl, hi'.symm⟩)
    · rw [List.getElem?_eq_none (by simp; omega)] at hi'; cases hi'
  have same : ∀ i oi, i ≠ id → st.σ[i]? = some oi → Has g i oi → H' (g.B i) = H (g.B i) := by
    intro i oi hne hio hhi
    rcases hh with ⟨h1, h2, _⟩ | ⟨rfl, _⟩
    · exact h2 _ (s.dis i id oi o hne hio hi hhi h1)
    · rfl
  have newHas : Has g' st.σ.length o' → Has g id o := fun hn => by
    rcases hh with ⟨h1, _, _⟩ | ⟨_, h2⟩
    · exact h1
    · exact absurd hn (h2 g' gV)
  refine ⟨g', ⟨fun t => ?_, fun i oi hi' => ?_, fun i oi hi' hhi => ?_, fun i j oi oj hij hi' hj hhi hhj => ?_, fun i oi hi' hhi => ?_, ?_, s.zsub, s.znew, fun b hb => ?_, s.lay, zc_ext s.zc hz⟩, ⟨by simp only [hlen]; omega, hext, fun i oi hi' hr' => ?_⟩, gB, gV⟩
  · rw [hlen]; exact SimV.ext (Nat.le_succ _) hext _ _ (s.tmp t)
  · rw [hlen]
    rcases old i oi hi' with ⟨h1, h2, h3⟩ | ⟨rfl, rfl⟩ | ⟨rfl, rfl⟩
    · exact SimO.ext (Nat.le_succ _) hext h1 (fun hhi => same i oi h2 h3 hhi) (s.obj i oi h3)
    · trivial
    · exact ho g' hext rfl gB gV
  · rcases old i oi hi' with ⟨h1, h2, h3⟩ | ⟨rfl, rfl⟩ | ⟨rfl, rfl⟩
    · rw [hext.b i h1]; exact s.nz i oi h3 ((Has.ext hext h1).1 hhi)
    · exact hhi.elim
    · rw [gB]; exact s.nz id o hi (newHas hhi)
  · rcases old i oi hi' with ⟨h1, h2, h3⟩ | ⟨rfl, rfl⟩ | ⟨rfl, rfl⟩
    · rcases old j oj hj with ⟨h4, h5, h6⟩ | ⟨rfl, rfl⟩ | ⟨rfl, rfl⟩
      · rw [hext.b i h1, hext.b j h4]; exact s.dis i j oi oj hij h3 h6 ((Has.ext hext h1).1 hhi) ((Has.ext hext h4).1 hhj)
      · exact hhj.elim
      · rw [gB, hext.b i h1]; exact s.dis i id oi o h2 h3 hi ((Has.ext hext h1).1 hhi) (newHas hhj)
    · exact hhi.elim
    · rcases old j oj hj with ⟨h4, h5, h6⟩ | ⟨rfl, rfl⟩ | ⟨rfl, rfl⟩
      · rw [gB, hext.b j h4]; exact fun e => s.dis j id oj o h5 h6 hi ((Has.ext hext h4).1 hhj) (newHas hhi) e.symm
      · exact hhj.elim
      · exact absurd rfl hij
  · rcases old i oi hi' with ⟨h1, h2, h3⟩ | ⟨rfl, rfl⟩ | ⟨rfl, rfl⟩
    · rw [hext.b i h1]; exact s.own i oi h3 ((Has.ext hext h1).1 hhi)
    · exact hhi.elim
    · rw [gB]; exact s.own id o hi (newHas hhi)
  · rcases hh with ⟨h1, h2, h3⟩ | ⟨rfl, _⟩
    · refine ⟨fun b hb h0 => ?_, fun b h0 => ?_⟩
      · by_cases e : b = g.B id
        · rcases s.own id o hi h1 with h | h
          · rw [← e] at h; exact absurd h hb
          · rw [← e] at h; exact absurd h h0
        · rw [h2 b e]; exact s.keep.same b hb h0
      · by_cases e : b = g.B id
        · rw [e]; exact h3
        · rw [h2 b e]; exact s.keep.live b h0
    · exact s.keep
  · rw [hz b hb]; exact s.zlive b hb
  · have hne : i ≠ id := fun e => by subst e; rw [hi] at hi'; cases hi'; rw [hr] at hr'; cases hr'
    refine ⟨?_, fun hhi => same i oi hne hi' hhi⟩
    rw [List.getElem?_append_left (by simpa using get_lt hi'), List.getElem?_set, if_neg (fun e => hne e.symm)]; exact hi'

/-- A row without a block, made for nothing. -/
theorem Sim.newNo {E : En} {st : St} {ρ : Env} {H : Heap} {g : Gh} (s : Sim E st ρ H g) {T : TypeId} {ks : List Kd} {K : AV → St → Prop} (hk : K (.row st.σ.length) (st.new (.row T false ks []))) : Res E st ρ H g K (.slice none 0 0) H := by
  let g' : Gh := ⟨g.Z, g.B, fun i => if i = st.σ.length then .slice none 0 0 else g.V i⟩
  have hext : Ext st.σ.length g H g' H := ⟨fun b hb => ⟨hb, rfl⟩, fun i hi => rfl, fun i hi => if_neg (by omega)⟩
  have gV : g'.V st.σ.length = .slice none 0 0 := if_pos rfl
  have hlen : (st.new (.row T false ks [])).σ.length = st.σ.length + 1 := by simp [St.new]
  have nh : ¬ Has g' st.σ.length (.row T false ks []) := by rintro ⟨a, n, c, h⟩; rw [gV] at h; cases h
  have old : ∀ i oi, (st.new (.row T false ks [])).σ[i]? = some oi → (i < st.σ.length ∧ st.σ[i]? = some oi) ∨ (i = st.σ.length ∧ oi = .row T false ks []) := by
    intro i oi hi
    simp only [St.new] at hi
    rcases Nat.lt_trichotomy i st.σ.length with h | h | h
    · exact .inl ⟨h, by rw [List.getElem?_append_left h] at hi; exact hi⟩
    · subst h
      rw [List.getElem?_append_right (Nat.le_refl _)] at hi
      simp at hi
      exact .inr ⟨rfl, hi.symm⟩
    · rw [List.getElem?_eq_none (by simp; omega)] at hi; cases hi
  refine ⟨_, st.new (.row T false ks []), g', ⟨fun t => ?_, fun i oi hi => ?_, fun i oi hi hh => ?_, fun i j oi oj hij hi hj hhi hhj => ?_, fun i oi hi hh => ?_, s.keep, s.zsub, s.znew, s.zlive, s.lay, s.zc⟩, ⟨by omega, hext, fun i oi hi hr => ⟨?_, fun hh => rfl⟩⟩, ?_, rfl, hk⟩
  · rw [hlen]; exact SimV.ext (Nat.le_succ _) hext _ _ (s.tmp t)
  · rw [hlen]
    rcases old i oi hi with ⟨h1, h2⟩ | ⟨rfl, rfl⟩
    · exact SimO.ext (Nat.le_succ _) hext h1 (fun hh => rfl) (s.obj i oi h2)
    · exact ⟨none, 0, 0, gV, rfl, Nat.le_refl _, Nat.zero_le _, .inl ⟨rfl, rfl⟩⟩
  · rcases old i oi hi with ⟨h1, h2⟩ | ⟨rfl, rfl⟩
    · exact s.nz i oi h2 ((Has.ext hext h1).1 hh)
    · exact absurd hh nh
  · rcases old i oi hi with ⟨h1, h2⟩ | ⟨rfl, rfl⟩
    · rcases old j oj hj with ⟨h3, h4⟩ | ⟨rfl, rfl⟩
      · exact s.dis i j oi oj hij h2 h4 ((Has.ext hext h1).1 hhi) ((Has.ext hext h3).1 hhj)
      · exact absurd hhj nh
    · exact absurd hhi nh
  · rcases old i oi hi with ⟨h1, h2⟩ | ⟨rfl, rfl⟩
    · exact s.own i oi h2 ((Has.ext hext h1).1 hh)
    · exact absurd hh nh
  · simp only [St.new]; rw [List.getElem?_append_left (get_lt hi)]; exact hi
  · rw [hlen]
    simp only [SimV]
    exact ⟨by omega, gV.symm, none, 0, 0, rfl⟩

/-! ### What a row holds, as cells -/
theorem CellOk.plain {Z : Nat → Prop} {H : Heap} : ∀ {k : Kd} {x : El k} {v : Value}, CellOk Z H k x v → plainC v = true
  | .int _, _, _, h => by simp only [CellOk] at h; rw [h.1]; rfl
  | .bool, _, _, h => by simp only [CellOk] at h; rw [h]; rfl
  | .str, _, _, h => by simp only [CellOk] at h; rw [h.1]; rfl
  | .lst _, _, _, h => by simp only [CellOk] at h; obtain ⟨a, n, c, h, _⟩ := h; rw [h]; rfl
theorem CellsOk.plain {Z : Nat → Prop} {H : Heap} : ∀ {ks : List Kd} {x : Tp ks} {f : Nat → Option Value}, CellsOk Z H ks x f → ∀ j, j < ks.length → ∃ v, f j = some v ∧ plainC v = true
  | [], _, _, _, j, hj => by simp at hj
  | k :: ks, x, f, h, j, hj => by
    simp only [CellsOk] at h
    obtain ⟨⟨v, h1, h2⟩, h3⟩ := h
    cases j with
    | zero => exact ⟨v, h1, h2.plain⟩
    | succ j => exact CellsOk.plain h3 j (by simpa using hj)

theorem cells_of {Z : Nat → Prop} {H : Heap} {ks : List Kd} {xs : List (Tp ks)} {cs : Array Value} {o : Nat} (h : ∀ i x, xs[i]? = some x → CellsOk Z H ks x (fun j => cs[o + i * ks.length + j]?)) :
    ∃ new : List Value, new.length = xs.length * ks.length ∧ (∀ j, j < xs.length * ks.length → cs[o + j]? = new[j]?) ∧ (∀ i x, xs[i]? = some x → CellsOk Z H ks x (fun j => new[i * ks.length + j]?)) ∧ ∀ v ∈ new, plainC v = true := by
  have get : ∀ j, j < xs.length * ks.length → ∃ v, cs[o + j]? = some v ∧ plainC v = true := by
    intro j hj
    have hk : 0 < ks.length := by
      rcases Nat.eq_zero_or_pos ks.length with e | e
      · rw [e] at hj; simp at hj
      · exact e
    have hi : j / ks.length < xs.length := Nat.div_lt_of_lt_mul (by rw [Nat.mul_comm]; exact hj)
    obtain ⟨v, hv, hp⟩ := (h (j / ks.length) _ (List.getElem?_eq_getElem hi)).plain (j % ks.length) (Nat.mod_lt _ hk)
    refine ⟨v, ?_, hp⟩
    rw [← hv]
    congr 1
    have := Nat.div_add_mod j ks.length
    rw [Nat.mul_comm] at this
    omega
  have hsz : xs.length * ks.length = 0 ∨ o + xs.length * ks.length ≤ cs.size := by
    rcases Nat.eq_zero_or_pos (xs.length * ks.length) with e | e
    · exact .inl e
    · obtain ⟨v, hv, _⟩ := get (xs.length * ks.length - 1) (by omega)
      have : o + (xs.length * ks.length - 1) < cs.size := (Array.getElem?_eq_some_iff.1 hv).1
      exact .inr (by omega)
  have hget : ∀ j, j < xs.length * ks.length → cs[o + j]? = ((cs.toList.drop o).take (xs.length * ks.length))[j]? := by
    intro j hj
    rw [List.getElem?_take_of_lt hj, List.getElem?_drop]; simp
  refine ⟨(cs.toList.drop o).take (xs.length * ks.length), ?_, hget, fun i x hx => ?_, fun v hv => ?_⟩
  · simp only [List.length_take, List.length_drop, Array.length_toList]
    rcases hsz with e | e <;> omega
  · refine CellsOk.congr (fun j hj => ?_) (h i x hx)
    have hi : i < xs.length := by
      rcases Nat.lt_or_ge i xs.length with h | h
      · exact h
      · rw [List.getElem?_eq_none h] at hx; cases hx
    have hb : i * ks.length + j < xs.length * ks.length := by
      have : (i + 1) * ks.length ≤ xs.length * ks.length := Nat.mul_le_mul_right _ (by omega)
      rw [Nat.add_mul] at this; omega
    rw [← hget _ hb, Nat.add_assoc]
  · obtain ⟨j, hj⟩ := List.getElem?_of_mem hv
    have hlt : j < xs.length * ks.length := by
      rcases Nat.lt_or_ge j (xs.length * ks.length) with h | h
      · exact h
      · rw [List.getElem?_eq_none (by simp only [List.length_take]; omega)] at hj; cases hj
    obtain ⟨u, hu, hp⟩ := get j hlt
    rw [hget j hlt, hj] at hu
    cases hu; exact hp

/-- What reads a slice's content: for any kind of slice. -/
def RdOk (g : Gh) (H : Heap) (ks : List Kd) (xs : List (Tp ks)) (v : Value) : Prop :=
  ∃ a n c new, v = .slice a n c ∧ xs.length = n ∧ n ≤ c ∧ c ≤ lenMax ∧ Reads H a (n * ks.length) new ∧ (∀ i x, xs[i]? = some x → CellsOk g.Z H ks x (fun j => new[i * ks.length + j]?)) ∧ ∀ v ∈ new, plainC v = true
theorem lst_rd {g : Gh} {H : Heap} {ks : List Kd} {xs : List (Tp ks)} {v : Value} (h : CellOk g.Z H (.lst ks) xs v) : RdOk g H ks xs v := by
  simp only [CellOk] at h
  obtain ⟨a, n, c, h1, h2, h3, h4, h5⟩ := h
  simp only [asL] at h2
  rcases Nat.eq_zero_or_pos n with e | e
  · subst e
    have : xs = [] := List.eq_nil_of_length_eq_zero h2
    subst this
    refine ⟨a, 0, c, [], h1, rfl, h3, h4, ⟨by simp, ?_⟩, fun i x hx => by simp at hx, by simp⟩
    cases a with
    | none => simp
    | some a => intro h0; simp at h0
  · obtain ⟨b, o, ha, hz, cs, T, fr, hb, hc⟩ := h5 e
    obtain ⟨new, h6, h7, h8, h9⟩ := cells_of hc
    rw [h2] at h6 h7
    refine ⟨a, n, c, new, h1, h2, h3, h4, ⟨h6, ?_⟩, h8, h9⟩
    subst ha
    exact fun _ => ⟨rfl, cs, T, fr, hb, h7⟩
theorem row_rd {g : Gh} {H : Heap} {T : TypeId} {ks : List Kd} {xs : List (Tp ks)} {v : Value} {b : Nat} (h : RowOk g H T ks xs v b) : RdOk g H ks xs v := by
  obtain ⟨a, n, c, h1, h2, h3, h4, h5⟩ := h
  rcases h5 with ⟨rfl, rfl⟩ | ⟨o, rfl, cs, T', hb, hs, hc⟩
  · have e : n = 0 := by omega
    subst e
    have : xs = [] := List.eq_nil_of_length_eq_zero h2
    subst this
    exact ⟨none, 0, 0, [], h1, rfl, h3, h4, ⟨by simp, by simp⟩, fun i x hx => by simp at hx, by simp⟩
  · obtain ⟨new, h6, h7, h8, h9⟩ := cells_of (o := o) hc
    rw [h2] at h6 h7
    exact ⟨_, n, c, new, h1, h2, h3, h4, ⟨h6, fun _ => ⟨rfl, cs, T', _, hb, h7⟩⟩, h8, h9⟩

/-- The content of a slice, to be read. -/
def rdL (σ : List AObj) (ks : List Kd) : AV → Option (List (Tp ks))
  | .lst ks' xs => match Kd.decs ks' ks with
    | isTrue h => some (castL h xs)
    | isFalse _ => none
  | .nils => some []
  | .row id => match σ[id]? with
    | some (.row _ _ ks' xs) => match Kd.decs ks' ks with
      | isTrue h => some (castL h xs)
      | isFalse _ => none
    | some (.frz ks' xs) => match Kd.decs ks' ks with
      | isTrue h => some (castL h xs)
      | isFalse _ => none
    | _ => none
  | _ => none
theorem rdL_ok {E : En} {st : St} {ρ : Env} {H : Heap} {g : Gh} (s : Sim E st ρ H g) {ks : List Kd} {a : AV} {v : Value} {xs : List (Tp ks)} (h : rdL st.σ ks a = some xs) (hs : SimV g H st.σ.length a v) : RdOk g H ks xs v := by
  unfold rdL at h
  split at h
  · split at h
    · rename_i hk _
      subst hk; cases h
      simp only [SimV] at hs
      exact lst_rd hs
    · cases h
  · cases h
    simp only [SimV] at hs
    exact ⟨none, 0, 0, [], hs, rfl, Nat.le_refl _, Nat.zero_le _, ⟨by simp, by simp⟩, fun i x hx => by simp at hx, by simp⟩
  · rename_i id
    simp only [SimV] at hs
    obtain ⟨_, rfl, _⟩ := hs
    split at h
    · rename_i T r ks' xs' ho
      split at h
      · rename_i hk _
        subst hk; cases h
        exact row_rd (T := T) (s.obj id _ ho)
      · cases h
    · rename_i ks' xs' ho
      split at h
      · rename_i hk _
        subst hk; cases h
        exact lst_rd (s.obj id _ ho)
      · cases h
    · cases h
  · cases h

/-- What is to be seen of an element's type. -/
def elemOk (P : Program) (e : TypeId) (ks : List Kd) : Bool := match P.info? e, zeroL P e with
  | some it, some z => Nat.beq it.size ks.length && Nat.beq z.length ks.length && Nat.blt 0 it.bytes && Nat.ble it.bytes 100000
  | _, _ => false
theorem elemOk_elim {P : Program} {e : TypeId} {ks : List Kd} (h : elemOk P e ks = true) : ∃ it z, P.info? e = some it ∧ zeroL P e = some z ∧ it.size = ks.length ∧ z.length = ks.length ∧ 0 < it.bytes ∧ it.bytes ≤ 100000 := by
  unfold elemOk at h
  split at h
  · rename_i it z hi hz
    simp only [Bool.and_eq_true] at h
    exact ⟨it, z, hi, hz, Nat.eq_of_beq_eq_true h.1.1.1, Nat.eq_of_beq_eq_true h.1.1.2, by simpa using h.1.2, Nat.le_of_ble_eq_true h.2⟩
  · cases h

/-- append(nil, make([]T, n)...). -/
theorem AppW.zeros {P : Program} {st xt t e : TypeId} {n : Nat} {k : IntKind} {z : List Value} {H : Heap} {K : Value → Heap → Prop} {it : TypeInfo}
    (hu : P.underlying st = some (.slice e)) (hx : P.underlying xt = some (.int k)) (hi : P.info? e = some it) (hz : zeroL P e = some z) (hb0 : 0 < it.bytes) (hb1 : it.bytes ≤ 100000) (hsz : 0 < it.size) (hn0 : 0 < n) (hn : n ≤ 1000000000)
    (h : ∀ m cap, H m = none → n ≤ cap → cap ≤ 9223372036854775807 → K (.slice (some ⟨m, 0, none⟩) n cap) (H.upd m (.cells ⟨repL n z ++ repL (cap - n) z⟩ e))) :
    AppW P #[st, xt] t [.slice none 0 0, .int .i64 n] H K := by
  unfold AppW Builtin.append_
  have hsize : szOf P e = some it.size := by unfold szOf; rw [hi]
  refine (SemW.bind _ _ _ _).2 (semW_underlying hu ?_)
  refine (SemW.bind _ _ _ _).2 (semW_szOf hsize ?_)
  have ht : ∀ (K' : TypeInfo → Heap → Prop), K' it H → SemW P (typeInfo e) H K' := fun K' hk => by
    unfold typeInfo
    refine (SemW.bind _ _ _ _).2 ?_
    change SemW P (match P.info? e with | some i => pure i | none => stuck "no such type") H K'
    rw [hi]; exact hk
  refine (SemW.bind _ _ _ _).2 ?_
  refine (SemW.bind _ _ _ _).2 ?_
  change SemW P (underlying xt) H _
  refine semW_underlying hx ?_
  have wn : IntKind.i64.wrap (n : Int) = n := wrap_id (by omega) (by omega)
  have hmul : n * it.bytes ≤ 1000000000 * 100000 := Nat.mul_le_mul hn hb1
  have hmulI : (n : Int) * (it.bytes : Int) = ((n * it.bytes : Nat) : Int) := by rw [Int.natCast_mul]
  have room : ∀ (k : Nat) (s : Sem Value), SemW P s H K → SemW P (do askRoom k; s) H K := fun k s hs => by
    unfold askRoom
    split <;> exact hs
  show SemW P (if IntKind.i64.wrap (n : Int) < 0 then _ else _) H _
  rw [wn, if_neg (by omega)]
  show SemW P (typeInfo e >>= _) H _
  refine (SemW.bind _ _ _ _).2 (ht _ ?_)
  show SemW P (if (n : Int) * (it.bytes : Int) > 2 ^ 48 then _ else _) H _
  rw [if_neg (by rw [hmulI]; omega)]
  show SemW P (if 0 + (n : Int).toNat ≤ 0 then _ else _) H K
  rw [if_neg (by omega)]
  have e0 : (n : Int).toNat = n := by omega
  rw [e0, Nat.zero_add]
  show SemW P (typeInfo e >>= _) H K
  refine (SemW.bind _ _ _ _).2 (ht _ ?_)
  rw [if_neg (by
    have hm : IntKind.i64.max = 9223372036854775807 := rfl
    rw [hm]; omega)]
  show SemW P (typeInfo e >>= _) H K
  refine (SemW.bind _ _ _ _).2 (ht _ ?_)
  have hcap0 : Builtin.nextslicecap n 0 = n := by unfold Builtin.nextslicecap; rw [if_pos (by omega)]
  rw [hcap0, if_neg (by omega)]
  show SemW P (choose (.appendCap n 0 e) >>= _) H K
  refine (SemW.bind _ _ _ _).2 ⟨fun hq => (by cases hq), fun _ tape => ?_⟩
  have hge := appendCut_ge n 0 e tape
  have hle := appendCut_le n 0 e tape (by omega)
  generalize (Question.appendCap n 0 e).cut tape = cap at hge hle
  show SemW P (typeInfo e >>= _) H K
  refine (SemW.bind _ _ _ _).2 (ht _ ?_)
  refine room _ _ ?_
  show SemW P (Builtin.firstCells it.size 0 (.slice none 0 0) >>= _) H K
  refine (SemW.bind _ _ _ _).2 ?_
  show SemW P ((if n * it.size = 0 then pure #[] else do pure (Builtin.zeroCells (← zeroValue e).cells n)) >>= _) H K
  rw [if_neg (by
    have : 0 < n * it.size := Nat.mul_pos hn0 hsz
    omega)]
  refine (SemW.bind _ _ _ _).2 ?_
  refine (SemW.bind _ _ _ _).2 (semW_zero hz fun v hv => ?_)
  show SemW P (zeroValue e >>= _) H K
  refine (SemW.bind _ _ _ _).2 (semW_zero hz fun v' hv' => ?_)
  show SemW P (newRow e (#[] ++ Builtin.zeroCells v.cells n ++ Builtin.zeroCells v'.cells (cap - n)) >>= _) H K
  refine (SemW.bind _ _ _ _).2 (semW_newRow fun m hm => ?_)
  have he : ((#[] : Array Value) ++ Builtin.zeroCells v.cells n ++ Builtin.zeroCells v'.cells (cap - n)) = ⟨repL n z ++ repL (cap - n) z⟩ := by
    rw [zeroCells_eq, zeroCells_eq, hv, hv']
    apply Array.ext'; simp
  rw [he]
  exact h m cap hm hge hle

/-- append(nil, make([]T, n)...), over plain data. -/
def azP (P : Program) (st : St) (t0 t1 : TypeId) (s x : AV) (K : AV → St → Prop) : Prop :=
  match P.underlying t0, P.underlying t1, s, x with
  | some (.slice e), some (.int _), .nils, .int .i64 n => match kdOf P 8 e with
    | some ks => match elemOk P e ks && Nat.blt 0 ks.length, zeroL P e with
      | true, some z => match unT ks (z.map ofV1) with
        | some x => 0 < n ∧ n ≤ 1000000000 ∧ K (.row st.σ.length) (st.new (.row e false ks (List.replicate n.toNat x)))
        | none => False
      | _, _ => False
    | none => False
  | _, _, _, _ => False
theorem azP_sound {P : Program} {E : En} {st : St} {ρ : Env} {H : Heap} {g : Gh} (s : Sim E st ρ H g) {t0 t1 t : TypeId} {a x : AV} {va vx : Value} {K : AV → St → Prop} (h : azP P st t0 t1 a x K) (ha : SimV g H st.σ.length a va) (hx : SimV g H st.σ.length x vx) :
    AppW P #[t0, t1] t [va, vx] H (Res E st ρ H g K) := by
  unfold azP at h
  split at h
  case h_2 => exact h.elim
  rename_i e k n hu hu'
  simp only [SimV] at ha hx
  subst ha
  obtain ⟨rfl, _⟩ := hx
  split at h
  case h_2 => exact h.elim
  rename_i ks hks
  split at h
  case h_2 => exact h.elim
  rename_i z hel hz
  simp only [Bool.and_eq_true] at hel
  obtain ⟨hel, hks0⟩ := hel
  obtain ⟨it, z', hi, hz', hsz, hzl, hb0, hb1⟩ := elemOk_elim hel
  rw [hz] at hz'
  cases hz'
  split at h
  case h_2 => exact h.elim
  rename_i y hy
  obtain ⟨h0, h1, h⟩ := h
  have en : n = (n.toNat : Int) := by omega
  have hks0' : 0 < ks.length := by simpa using hks0
  rw [en]
  refine AppW.zeros hu hu' hi hz hb0 hb1 (by omega) (by omega) (by omega) fun m cap hm hge hle => ?_
  have hy' := unT_sim hy (ofV1_simL (g := g) (H := H) (N := st.σ.length) z)
  have := s.newRow (T := e) (K := K) hm (vs := repL n.toNat z ++ repL (cap - n.toNat) z) (xs := List.replicate n.toNat y) (cap := cap) (by simp; omega) hle (by
    rw [List.length_append, repL_length, repL_length, hzl, ← Nat.add_mul]; congr 1; omega) (fun i y' hi' => by
    rw [List.getElem?_replicate] at hi'
    split at hi'
    · rename_i hlt
      cases hi'
      refine CellsOk.congr (fun j hj => ?_) hy'
      have hlt2 : i * ks.length + j < n.toNat * z.length := by
        rw [hzl]
        have : (i + 1) * ks.length ≤ n.toNat * ks.length := Nat.mul_le_mul_right _ (by omega)
        rw [Nat.add_mul] at this; omega
      rw [List.getElem?_append_left (by rw [repL_length]; exact hlt2), repL_get z (by omega) n.toNat _ hlt2]
      congr 1
      rw [hzl, Nat.mul_comm, Nat.mul_add_mod]
      exact Nat.mod_eq_of_lt hj
    · cases hi') h
  simpa using this

/-- How many elements a row may have: twice as many, and some, take at most 2^48 bytes. -/
def appLim (b : Nat) : Nat := (281474976710656 / b - 192) / 2
def bytesE (P : Program) (e : TypeId) : Nat := match P.info? e with
  | some it => it.bytes
  | none => 1
theorem appLim_ok {b m : Nat} (h0 : 0 < b) (h1 : b ≤ 100000) (h : m ≤ appLim b) : (2 * m + 192) * b ≤ 2 ^ 48 := by
  unfold appLim at h
  have h2 : 281474976710656 / 100000 ≤ 281474976710656 / b := Nat.div_le_div_left h1 h0
  have h3 : 2 * m + 192 ≤ 281474976710656 / b := by
    have : 281474976710656 / 100000 = 2814749767 := rfl
    omega
  exact Nat.le_trans (Nat.mul_le_mul_right _ h3) (Nat.div_mul_le_self _ _)

def appP (P : Program) (st : St) (t0 t1 : TypeId) (s x : AV) (K : AV → St → Prop) : Prop :=
  match P.underlying t0, P.underlying t1 with
  | some (.slice e), some (.slice _) => match kdOf P 8 e with
    | some ks => match elemOk P e ks, rdL st.σ ks x with
      | true, some ys => match s with
        | .nils => ys.length ≤ appLim (bytesE P e) ∧ K (.row st.σ.length) ⟨st.α, st.σ ++ [.row e false ks ys]⟩
        | .row id => match st.σ[id]? with
          | some (.row T false ks' xs) => match Nat.beq T e, Kd.decs ks' ks with
            | true, isTrue h => xs.length + ys.length ≤ appLim (bytesE P e) ∧ K (.row st.σ.length) ⟨st.α, st.σ.set id .gone ++ [.row e false ks (castL h xs ++ ys)]⟩
            | _, _ => False
          | _ => False
        | .osl id off n c => match st.σ[id]?, Nat.beq n c && Nat.ble n 1000000 with
          | some (.obj _ false cs), true => match unTs ks n ((cs.drop off).take (n * ks.length)), Nat.ble (off + n * ks.length) cs.length with
            | some xs, true => xs.length + ys.length ≤ appLim (bytesE P e) ∧ K (.row st.σ.length) ⟨st.α, st.σ.set id .gone ++ [.row e false ks (xs ++ ys)]⟩
            | _, _ => False
          | _, _ => False
        | _ => False
      | _, _ => False
    | none => False
  | _, _ => False

theorem cellsOk_append {Z : Nat → Prop} {H : Heap} {ks : List Kd} {xs ys : List (Tp ks)} {old new : List Value} {f : Nat → Option Value} (ho : old.length = xs.length * ks.length) (h1 : ∀ i x, xs[i]? = some x → CellsOk Z H ks x (fun j => old[i * ks.length + j]?))
    (h2 : ∀ i x, ys[i]? = some x → CellsOk Z H ks x (fun j => new[i * ks.length + j]?)) (hf1 : ∀ j, j < old.length → f j = old[j]?) (hf2 : ∀ j, j < new.length → f (old.length + j) = new[j]?) (hn : new.length = ys.length * ks.length) :
    ∀ i x, (xs ++ ys)[i]? = some x → CellsOk Z H ks x (fun j => f (i * ks.length + j)) := by
  intro i x hx
  by_cases hi : i < xs.length
  · rw [List.getElem?_append_left hi] at hx
    refine CellsOk.congr (fun j hj => hf1 _ ?_) (h1 i x hx)
    have : (i + 1) * ks.length ≤ xs.length * ks.length := Nat.mul_le_mul_right _ (by omega)
    rw [Nat.add_mul] at this; omega
  · rw [List.getElem?_append_right (by omega)] at hx
    have hlt : i - xs.length < ys.length := by
      rcases Nat.lt_or_ge (i - xs.length) ys.length with h | h
      · exact h
      · rw [List.getElem?_eq_none h] at hx; cases hx
    have e : i * ks.length = old.length + (i - xs.length) * ks.length := by
      rw [ho, ← Nat.add_mul]; congr 1; omega
    refine CellsOk.congr (fun j hj => ?_) (h2 _ x hx)
    rw [e, Nat.add_assoc]
    refine hf2 _ ?_
    have : (i - xs.length + 1) * ks.length ≤ ys.length * ks.length := Nat.mul_le_mul_right _ (by omega)
    rw [Nat.add_mul] at this; omega

theorem appP_sound {P : Program} {E : En} {st : St} {ρ : Env} {H : Heap} {g : Gh} (s : Sim E st ρ H g) {t0 t1 t : TypeId} {a x : AV} {va vx : Value} {K : AV → St → Prop} (h : appP P st t0 t1 a x K) (ha : SimV g H st.σ.length a va) (hx : SimV g H st.σ.length x vx) :
    AppW P #[t0, t1] t [va, vx] H (Res E st ρ H g K) := by
  unfold appP at h
  split at h
  · rename_i e e' hu hu'
    split at h
    · rename_i ks hks
      split at h
      · rename_i ys hel hrd
        obtain ⟨it, z, hi, hz, hsz, hzl, hb0, hb1⟩ := elemOk_elim hel
        obtain ⟨xb, n, xc, new, rfl, hyl, _, _, hnew, hnc, hnp⟩ := rdL_ok s hrd hx
        have hnl := hnew.len
        have hbe : bytesE P e = it.bytes := by unfold bytesE; rw [hi]
        rw [hbe] at h
        split at h
        · obtain ⟨hle, h⟩ := h
          simp only [SimV] at ha
          subst ha
          have hold : Reads H none (0 * ks.length) [] := by rw [Nat.zero_mul]; exact Reads.nil
          refine AppW.intro2 (n := n) (sLen := 0) (sCap := 0) (sz := ks.length) (by_ := it.bytes) hu hu' hi hsz rfl (by omega) hz hzl hold hnew (.inl ?_) (fun hc => ?_) fun hc m cap hm hcap hcb => ?_
          · exact appLim_ok (by omega) hb1 (by omega)
          · have hn0 : n = 0 := by omega
            subst hn0
            have : ys = [] := List.eq_nil_of_length_eq_zero hyl
            subst this
            exact ⟨rfl, s.newNo h⟩
          · have hrl : (repL (cap - (0 + n)) z).length = (cap - n) * ks.length := by rw [repL_length, hzl, Nat.zero_add]
            have := s.newRow (T := e) (K := K) hm (vs := [] ++ new ++ repL (cap - (0 + n)) z) (xs := ys) (cap := cap) (by omega) hcb ?_ ?_ h
            · rw [hyl] at this
              rw [Nat.zero_add]
              rw [Nat.zero_add] at this
              exact this
            · simp only [List.nil_append, List.length_append, hrl, hnl]
              rw [← Nat.add_mul]; congr 1; omega
            · have := cellsOk_append (xs := []) (ys := ys) (old := []) (new := new) (f := fun j => ([] ++ new ++ repL (cap - (0 + n)) z)[j]?) (by simp) (fun i x hx => by simp at hx) hnc (by simp) (fun j hj => by
                simp only [List.length_nil, Nat.zero_add, List.nil_append]
                rw [List.getElem?_append_left hj]) (by rw [hnl, hyl])
              simpa using this
        · rename_i id
          split at h
          · rename_i T ks' xs ho
            split at h
            · rename_i _ _ hke hT _
              have hT := Nat.eq_of_beq_eq_true hT
              subst hT hke
              obtain ⟨hle, h⟩ := h
              simp only [castL] at h
              simp only [SimV] at ha
              obtain ⟨_, rfl, _⟩ := ha
              have hrow := s.obj id _ ho
              obtain ⟨aa, m, c, old, hV, hxl, hmc, hcm, hold, hoc, _⟩ := row_rd (T := T) hrow
              have hol := hold.len
              obtain ⟨aa', m', c', hV', _, _, _, h5⟩ := hrow
              rw [hV] at hV'
              cases hV'
              rw [hV]
              have happ : ∀ (f : Nat → Option Value), (∀ j, j < old.length → f j = old[j]?) → (∀ j, j < new.length → f (old.length + j) = new[j]?) → ∀ i x, (xs ++ ys)[i]? = some x → CellsOk g.Z H ks' x (fun j => f (i * ks'.length + j)) :=
                fun f h1 h2 => cellsOk_append (by rw [hol, hxl]) hoc hnc h1 h2 (by rw [hnl, hyl])
              refine AppW.intro2 (n := n) (sLen := m) (sCap := c) (sz := ks'.length) (by_ := it.bytes) hu hu' hi hsz rfl (by omega) hz hzl hold hnew (.inl ?_) (fun hc => ?_) fun hc mb cap hm hcap hcb => ?_
              · exact appLim_ok (by omega) hb1 (by omega)
              · rcases h5 with ⟨rfl, rfl⟩ | ⟨oo, rfl, cc, T', hcc, hcs, _⟩
                · have hn0 : n = 0 := by omega
                  have hm0 : m = 0 := by omega
                  subst hn0 hm0
                  have e1 : ys = [] := List.eq_nil_of_length_eq_zero hyl
                  have e2 : xs = [] := List.eq_nil_of_length_eq_zero hxl
                  subst e1 e2
                  obtain ⟨s1, r1⟩ := s.drop ho rfl
                  refine ⟨rfl, ?_⟩
                  have := s1.newNo (T := T) (ks := ks') (K := K) (by
                    simp only [St.new, St.obj, List.length_set]
                    exact h)
                  obtain ⟨a, st', g', sa, ra, va, ea, ka⟩ := this
                  exact ⟨a, st', g', sa, r1.trans ra, va, ea, ka⟩
                · refine ⟨rfl, cc, T', hcc, ?_, hnp, fun H' hb' hoth => ?_⟩
                  · exact hcs
                  · have hmul : (m + n) * ks'.length ≤ c * ks'.length := Nat.mul_le_mul_right _ hc
                    rw [Nat.add_mul] at hmul
                    have hfit : oo + m * ks'.length + new.length ≤ cc.size := by omega
                    obtain ⟨g', s', r', gB, gV⟩ := s.renew (o' := .row T false ks' (xs ++ ys)) ho rfl (H' := H') (.slice (some ⟨g.B id, oo, none⟩) (m + n) c) (.inl ⟨⟨_, _, _, hV⟩, hoth, by unfold Blk at hb'; rw [hb']; simp⟩) (fun g' hext hz' hB hV2 => by
                      simp only [SimO]
                      refine ⟨_, _, _, hV2, by simp [hxl, hyl], hc, hcm, .inr ⟨oo, by rw [hB], _, T', by rw [hB]; exact hb', by rw [putRow_size]; exact hcs, fun i x hx => ?_⟩⟩
                      refine CellsOk.ext hext.z _ _ _ (CellsOk.congr (fun j _ => by rw [Nat.add_assoc]) (happ (fun j => (putRow cc (oo + m * ks'.length) new)[oo + j]?) (fun j hj => ?_) (fun j hj => ?_) i x hx))
                      · show (putRow cc (oo + m * ks'.length) new)[oo + j]? = _
                        rw [putRow_get _ _ _ _ hfit, if_neg (by omega)]
                        obtain ⟨_, ct, Tt, frt, hbt, hct⟩ := hold.2 (by omega)
                        simp only at hbt
                        rw [hcc] at hbt
                        cases hbt
                        exact hct j (by omega)
                      · show (putRow cc (oo + m * ks'.length) new)[oo + (old.length + j)]? = _
                        rw [putRow_get _ _ _ _ hfit, if_pos (by omega)]
                        congr 1; omega)
                    refine ⟨_, _, g', s', r', ?_, rfl, h⟩
                    simp only [SimV]
                    exact ⟨by simp, gV.symm, _, _, _, rfl⟩
              · obtain ⟨s1, r1⟩ := s.drop ho rfl
                have hrl : (repL (cap - (m + n)) z).length = (cap - (m + n)) * ks'.length := by rw [repL_length, hzl]
                have := s1.newRow (T := T) (K := K) hm (vs := old ++ new ++ repL (cap - (m + n)) z) (xs := xs ++ ys) (cap := cap) (by simp; omega) hcb (by
                  simp only [List.length_append, hrl, hnl, hol]
                  rw [← Nat.add_mul, ← Nat.add_mul]; congr 1; omega) (by
                  refine happ (fun j => (old ++ new ++ repL (cap - (m + n)) z)[j]?) (fun j hj => ?_) (fun j hj => ?_)
                  · show (old ++ new ++ repL (cap - (m + n)) z)[j]? = _
                    rw [List.append_assoc, List.getElem?_append_left hj]
                  · show (old ++ new ++ repL (cap - (m + n)) z)[old.length + j]? = _
                    rw [List.append_assoc, List.getElem?_append_right (by omega), Nat.add_sub_cancel_left, List.getElem?_append_left hj]) (by
                  simp only [St.new, St.obj, List.length_set]
                  exact h)
                have el : (xs ++ ys).length = m + n := by simp [hxl, hyl]
                rw [el] at this
                obtain ⟨a, st', g', sa, ra, va, ea, ka⟩ := this
                exact ⟨a, st', g', sa, r1.trans ra, va, ea, ka⟩
            · exact h.elim
          · exact h.elim
        · rename_i id off m c
          split at h
          · rename_i T cs ho hmc
            simp only [Bool.and_eq_true] at hmc
            have hm1 := Nat.le_of_ble_eq_true hmc.2
            have hmc := Nat.eq_of_beq_eq_true hmc.1
            subst hmc
            split at h
            · rename_i xs hun hfl
              have hfl := Nat.le_of_ble_eq_true hfl
              obtain ⟨hle, h⟩ := h
              simp only [SimV] at ha
              obtain ⟨_, rfl⟩ := ha
              obtain ⟨us, hb, hs⟩ := s.obj id _ ho
              have hs2 := (hs.drop off).take (m * ks.length)
              obtain ⟨hxl, hol, hoc⟩ := unTs_sim hun hs2
              have hfit : off + m * ks.length ≤ us.length := by rw [← hs.len]; exact hfl
              have happ : ∀ (f : Nat → Option Value), (∀ j, j < ((us.drop off).take (m * ks.length)).length → f j = ((us.drop off).take (m * ks.length))[j]?) → (∀ j, j < new.length → f (((us.drop off).take (m * ks.length)).length + j) = new[j]?) → ∀ i x, (xs ++ ys)[i]? = some x → CellsOk g.Z H ks x (fun j => f (i * ks.length + j)) :=
                fun f h1 h2 => cellsOk_append (by rw [hol, hxl]) hoc hnc h1 h2 (by rw [hnl, hyl])
              have hold : Reads H (some ⟨g.B id, off, none⟩) (m * ks.length) ((us.drop off).take (m * ks.length)) := ⟨hol, fun _ => ⟨rfl, _, T, _, hb, fun j hj => by
                simp only [List.getElem?_toArray]
                rw [List.getElem?_take, if_pos hj, List.getElem?_drop]⟩⟩
              generalize hg : (us.drop off).take (m * ks.length) = old at hs2 hol hoc happ hold
              refine AppW.intro2 (n := n) (sLen := m) (sCap := m) (sz := ks.length) (by_ := it.bytes) hu hu' hi hsz rfl (by omega) hz hzl hold hnew (.inl ?_) (fun hc => ?_) fun hc mb cap hm hcap hcb => ?_
              · exact appLim_ok (by omega) hb1 (by omega)
              · have hn0 : n = 0 := by omega
                subst hn0
                have e1 : ys = [] := List.eq_nil_of_length_eq_zero hyl
                subst e1
                have e2 : new = [] := List.eq_nil_of_length_eq_zero (by rw [hnl]; omega)
                subst e2
                refine ⟨rfl, ⟨us⟩, T, hb, by simpa using hfit, hnp, fun H' hb' hoth => ?_⟩
                obtain ⟨g', s', r', gB, gV⟩ := s.renew (o' := .row e false ks (xs ++ [])) ho rfl (H' := H') (.slice (some ⟨g.B id, off, none⟩) (m + 0) m) (.inl ⟨trivial, hoth, by unfold Blk at hb'; rw [hb']; simp⟩) (fun g' hext hz' hB hV2 => by
                  simp only [SimO]
                  refine ⟨_, _, _, hV2, by simp [hxl], by omega, by unfold lenMax; omega, .inr ⟨off, by rw [hB], _, T, by rw [hB]; exact hb', by simpa [putRow] using hfit, fun i x hx => ?_⟩⟩
                  refine CellsOk.ext hext.z _ _ _ (CellsOk.congr (fun j _ => by simp only [putRow, Nat.add_assoc]) (happ (fun j => (⟨us⟩ : Array Value)[off + j]?) (fun j hj => ?_) (fun j hj => by simp at hj) i x hx))
                  rw [← hg] at hj ⊢
                  simp only [List.getElem?_toArray]
                  rw [List.getElem?_take, if_pos (by simp only [List.length_take] at hj; omega), List.getElem?_drop])
                refine ⟨_, _, g', s', r', ?_, rfl, h⟩
                simp only [SimV]
                exact ⟨by simp, gV.symm, _, _, _, rfl⟩
              · obtain ⟨s1, r1⟩ := s.drop ho rfl
                have hrl : (repL (cap - (m + n)) z).length = (cap - (m + n)) * ks.length := by rw [repL_length, hzl]
                have := s1.newRow (T := e) (K := K) hm (vs := old ++ new ++ repL (cap - (m + n)) z) (xs := xs ++ ys) (cap := cap) (by simp; omega) hcb (by
                  simp only [List.length_append, hrl, hnl, hol]
                  rw [← Nat.add_mul, ← Nat.add_mul]; congr 1; omega) (by
                  refine happ (fun j => (old ++ new ++ repL (cap - (m + n)) z)[j]?) (fun j hj => ?_) (fun j hj => ?_)
                  · show (old ++ new ++ repL (cap - (m + n)) z)[j]? = _
                    rw [List.append_assoc, List.getElem?_append_left hj]
                  · show (old ++ new ++ repL (cap - (m + n)) z)[old.length + j]? = _
                    rw [List.append_assoc, List.getElem?_append_right (by omega), Nat.add_sub_cancel_left, List.getElem?_append_left hj]) (by
                  simp only [St.new, St.obj, List.length_set]
                  exact h)
                have el : (xs ++ ys).length = m + n := by simp [hxl, hyl]
                rw [el] at this
                obtain ⟨a, st', g', sa, ra, va, ea, ka⟩ := this
                exact ⟨a, st', g', sa, r1.trans ra, va, ea, ka⟩
            · exact h.elim
          · exact h.elim
        · exact h.elim
      · exact h.elim
    · exact h.elim
  · exact h.elim

/-! ### A part of a row of one's own that stays one's own -/
def soP (P : Program) (st : St) (t : TypeId) (x : AV) (lo hi : Option AV) (mx : Option AV) (K : AV → St → Prop) : Prop :=
  match P.underlying t, x, mx with
  | some (.slice e), .row id, none => match szOf P e, st.σ[id]? with
    | some s, some (.row T false ks xs) => match Nat.beq s ks.length with
      | true => cut xs lo hi fun ys => K (.row st.σ.length) ⟨st.α, st.σ.set id .gone ++ [.row T false ks ys]⟩
      | false => False
    | _, _ => False
  | some (.array n e), .ptr id 0, none => match kdOf P 8 e, szOf P e, st.σ[id]? with
    | some ks, some s, some (.obj _ false cs) => match Nat.beq s ks.length && Nat.ble n 1000000, lo, hi, unTs ks n cs with
      | true, none, none, some xs => K (.row st.σ.length) ⟨st.α, st.σ.set id .gone ++ [.row e false ks xs]⟩
      | _, _, _, _ => False
    | _, _, _ => False
  | _, _, _ => False

theorem soP_sound {P : Program} {E : En} {st : St} {ρ : Env} {H : Heap} {g : Gh} (s : Sim E st ρ H g) {t : TypeId} {x : AV} {lo hi mx : Option AV} {vx : Value} {vlo vhi vmx : Option Value} {K' : AV → St → Prop} (h : soP P st t x lo hi mx K') (hx : SimV g H st.σ.length x vx)
    (hl : ∀ a, lo = some a → ∃ v, vlo = some v ∧ SimV g H st.σ.length a v) (hl0 : lo = none → vlo = none) (hh : ∀ a, hi = some a → ∃ v, vhi = some v ∧ SimV g H st.σ.length a v) (hh0 : hi = none → vhi = none) (hm0 : mx = none → vmx = none) :
    SliceW P t vx vlo vhi vmx H (Res E st ρ H g K') := by
  unfold soP at h
  split at h
  case h_3 => exact h.elim
  case h_2 =>
    rename_i n e id hu
    rw [hm0 rfl]
    split at h
    case h_2 => exact h.elim
    rename_i ks sz T cs hks hsz ho
    split at h
    case h_2 => exact h.elim
    rename_i xs hck hxs
    have hle : n ≤ 1000000 := by
      simp only [Bool.and_eq_true] at hck
      simpa using hck.2
    obtain ⟨vs, hb, hs⟩ := s.obj id _ ho
    obtain ⟨h1, h2, h3⟩ := unTs_sim hxs hs
    simp only [SimV] at hx
    obtain ⟨_, rfl⟩ := hx
    rw [hl0 rfl, hh0 rfl]
    obtain ⟨g', s', r', gB, gV⟩ := s.renew (o' := .row e false ks xs) ho rfl (H' := H) (.slice (some ⟨g.B id, 0, none⟩) n n) (.inl ⟨trivial, fun _ _ => rfl, by rw [hb]; simp⟩) (fun g' hext hz' hB hV2 => by
      simp only [SimO]
      refine ⟨_, _, _, hV2, h1, Nat.le_refl _, by unfold lenMax; omega, .inr ⟨0, by rw [hB], ⟨vs⟩, T, by rw [hB]; exact hb, by simp [h2], fun i x hx => ?_⟩⟩
      refine CellsOk.ext hext.z _ _ _ (CellsOk.congr (fun j _ => ?_) (h3 i x hx))
      simp)
    unfold SliceW
    simp only [hu, sizeK, hsz, slHi]
    refine ⟨_, _, g', s', r', ?_, rfl, h⟩
    simp only [SimV]
    exact ⟨by simp, gV.symm, _, _, _, rfl⟩
  rename_i e id hu
  rw [hm0 rfl]
  split at h
  case h_2 => exact h.elim
  rename_i sz T ks xs hsz ho
  split at h
  case h_2 => exact h.elim
  rename_i hb
  have hszk := Nat.eq_of_beq_eq_true hb
  have hrow := s.obj id _ ho
  obtain ⟨a, n, c, hV, hxl, hnc, hcm, h5⟩ := hrow
  simp only [SimV] at hx
  obtain ⟨_, rfl, _⟩ := hx
  rw [hV]
  -- a new row in the old one's place
  have mk : ∀ (ys : List (Tp ks)) (a' : Option Addr) (n' c' : Nat), ys.length = n' → n' ≤ c' → c' ≤ lenMax → ((a = none ∧ a' = none ∧ c' = 0) ∨ ∃ o o', (a = some ⟨g.B id, o, none⟩ ∧ a' = some ⟨g.B id, o', none⟩ ∧ ∃ cc T', H (g.B id) = some (.cells cc T' (0, 0)) ∧ o' + c' * ks.length ≤ cc.size ∧
      ∀ i x, ys[i]? = some x → CellsOk g.Z H ks x (fun j => cc[o' + i * ks.length + j]?))) → K' (.row st.σ.length) ⟨st.α, st.σ.set id .gone ++ [.row T false ks ys]⟩ → Res E st ρ H g K' (.slice a' n' c') H := by
    intro ys a' n' c' h1 h2 h3 h4 hk
    obtain ⟨g', s', r', gB, gV⟩ := s.renew (o' := .row T false ks ys) ho rfl (H' := H) (.slice a' n' c') (by
      rcases h4 with ⟨rfl, rfl, rfl⟩ | ⟨o, o', rfl, rfl, cc, T', hcc, _⟩
      · refine .inr ⟨rfl, fun g' hv => ?_⟩
        rintro ⟨a, n, c, h⟩
        rw [hv] at h; cases h
      · exact .inl ⟨⟨_, _, _, hV⟩, fun _ _ => rfl, by rw [hcc]; simp⟩) (fun g' hext hz' hB hV2 => by
      simp only [SimO]
      refine ⟨_, _, _, hV2, h1, h2, h3, ?_⟩
      rcases h4 with ⟨_, rfl, rfl⟩ | ⟨o, o', _, rfl, cc, T', hcc, h6, h7⟩
      · exact .inl ⟨rfl, rfl⟩
      · exact .inr ⟨o', by rw [hB], cc, T', by rw [hB]; exact hcc, h6, fun i x hx => CellsOk.ext hext.z _ _ _ (h7 i x hx)⟩)
    refine ⟨_, _, g', s', r', ?_, rfl, hk⟩
    simp only [SimV]
    exact ⟨by simp, gV.symm, _, _, _, rfl⟩
  unfold SliceW
  simp only [hu, sizeK, hsz]
  have := cut_of (cap := c) (k' := fun n l => match l with | none => Res E st ρ H g K' (.slice a n c) H | some l => Res E st ρ H g K' (.slice (if c = l then a else a.map (·.add (l * sz))) (n - l) (c - l)) H) h hl hl0 hh hh0 (by omega)
    (fun m hm hk => mk _ a m c (by simp; omega) (by omega) hcm (by
      rcases h5 with ⟨rfl, rfl⟩ | ⟨o, rfl, cc, T', hcc, h6, h7⟩
      · exact .inl ⟨rfl, rfl, rfl⟩
      · refine .inr ⟨o, o, rfl, rfl, cc, T', hcc, h6, fun i x hx => h7 i x ?_⟩
        rw [List.getElem?_take] at hx
        split at hx
        · exact hx
        · cases hx) hk)
    (fun m l hm hl hk => mk _ _ _ _ (by simp; omega) (by omega) (by omega) (by
      rcases h5 with ⟨rfl, rfl⟩ | ⟨o, rfl, cc, T', hcc, h6, h7⟩
      · refine .inl ⟨rfl, ?_, by omega⟩
        split <;> rfl
      · by_cases hcl : c = l
        · rw [if_pos hcl]
          refine .inr ⟨o, o, rfl, rfl, cc, T', hcc, by subst hcl; simp; omega, fun i x hx => ?_⟩
          rw [List.getElem?_drop, List.getElem?_take] at hx
          split at hx
          · omega
          · cases hx
        · rw [if_neg hcl]
          have hsum : (l + (c - l)) * ks.length = l * ks.length + (c - l) * ks.length := Nat.add_mul _ _ _
          have e1 : l + (c - l) = c := by omega
          rw [e1] at hsum
          refine .inr ⟨o, o + l * sz, rfl, by simp only [Option.map_some]; rw [add_of_spot rfl], cc, T', hcc, by rw [hszk]; omega, fun i x hx => ?_⟩
          rw [List.getElem?_drop, List.getElem?_take] at hx
          split at hx
          · refine CellsOk.congr (fun j _ => ?_) (h7 (l + i) x hx)
            congr 1
            rw [hszk, Nat.add_mul]; omega
          · cases hx) hk)
  rw [hxl] at this
  refine slHi.mono (fun n hn => ?_) this
  cases vlo with
  | none => exact hn
  | some v => exact hn

/-! ### make, conversions -/
def mkP (P : Program) (st : St) (t : TypeId) (l c : AV) (K : AV → St → Prop) : Prop :=
  match P.underlying t, l, c with
  | some (.slice e), .int .i64 n, .int .i64 m => match kdOf P 8 e with
    | some ks => match elemOk P e ks, zeroL P e with
      | true, some z => match unT ks (z.map ofV1) with
        | some x => 0 ≤ n ∧ n ≤ m ∧ m ≤ 1000000000 ∧ K (.row st.σ.length) (st.new (.row e false ks (List.replicate n.toNat x)))
        | none => False
      | _, _ => False
    | none => False
  | _, _, _ => False

theorem mkP_sound {P : Program} {E : En} {st : St} {ρ : Env} {H : Heap} {g : Gh} (s : Sim E st ρ H g) {t : TypeId} {l c : AV} {vl vc : Value} {K : AV → St → Prop} (h : mkP P st t l c K) (hl : SimV g H st.σ.length l vl) (hc : SimV g H st.σ.length c vc) :
    MakeW P t vl vc H (Res E st ρ H g K) := by
  unfold mkP at h
  split at h
  · rename_i e n m hu
    simp only [SimV] at hl hc
    obtain ⟨rfl, _⟩ := hl
    obtain ⟨rfl, _⟩ := hc
    split at h
    · rename_i ks hks
      split at h
      · rename_i z hel hz
        obtain ⟨it, z', hi, hz', hsz, hzl, hb0, hb1⟩ := elemOk_elim hel
        rw [hz] at hz'
        cases hz'
        split at h
        · rename_i x hx
          obtain ⟨h0, h1, h2, h⟩ := h
          have en : n = (n.toNat : Int) := by omega
          have em : m = (m.toNat : Int) := by omega
          rw [en, em]
          have hmul : it.bytes * m.toNat ≤ 100000 * 1000000000 := Nat.mul_le_mul hb1 (by omega)
          refine MakeW.intro (z := z) (it := it) hu hi hz (by omega) (by omega) (by omega) (by omega) fun b hb => ?_
          have hx' := unT_sim hx (ofV1_simL (g := g) (H := H) (N := st.σ.length) z)
          have := s.newRow (T := e) (K := K) hb (vs := repL m.toNat z) (xs := List.replicate n.toNat x) (cap := m.toNat) (by simp; omega) (by unfold lenMax; omega) (by rw [repL_length, hzl]) (fun i y hy => by
            rw [List.getElem?_replicate] at hy
            split at hy
            · rename_i hlt
              cases hy
              refine CellsOk.congr (fun j hj => ?_) hx'
              have hjz : j < z.length := by omega
              have hlt2 : i * ks.length + j < m.toNat * z.length := by
                rw [hzl]
                have : (i + 1) * ks.length ≤ m.toNat * ks.length := Nat.mul_le_mul_right _ (by omega)
                rw [Nat.add_mul] at this; omega
              rw [repL_get z (by omega) m.toNat _ hlt2]
              congr 1
              rw [hzl, Nat.mul_comm, Nat.mul_add_mod]
              exact Nat.mod_eq_of_lt hj
            · cases hy) h
          simpa using this
        · exact h.elim
      · exact h.elim
    · exact h.elim
  · exact h.elim

/-! ### An array object, kept as a row -/
def unL (ks : List Kd) : List AV → Option (List (Tp ks))
  | [] => some []
  | a :: as => match unT ks [a], unL ks as with
    | some x, some xs => some (x :: xs)
    | _, _ => none
theorem unL_sim {g : Gh} {H : Heap} {N : Nat} {ks : List Kd} (h1 : ks.length = 1) : ∀ {as : List AV} {vs : List Value} {xs : List (Tp ks)}, unL ks as = some xs → SimL g H N as vs → xs.length = vs.length ∧ ∀ i x, xs[i]? = some x → CellsOk g.Z H ks x (fun j => vs[i * ks.length + j]?)
  | [], [], xs, h, _ => by simp only [unL, Option.some.injEq] at h; subst h; exact ⟨rfl, fun i x hx => by simp at hx⟩
  | [], _ :: _, _, _, hs => by simp only [SimL] at hs
  | _ :: _, [], _, _, hs => by simp only [SimL] at hs
  | a :: as, v :: vs, xs, h, hs => by
    simp only [SimL] at hs
    simp only [unL] at h
    split at h
    · rename_i x xs' hx hxs
      simp only [Option.some.injEq] at h
      subst h
      obtain ⟨h2, h3⟩ := unL_sim h1 hxs hs.2
      refine ⟨by simp [h2], fun i y hy => ?_⟩
      cases i with
      | zero =>
        simp only [List.getElem?_cons_zero, Option.some.injEq] at hy
        subst hy
        have := unT_sim hx (vs := [v]) (by simp only [SimL]; exact ⟨hs.1, trivial⟩)
        refine CellsOk.congr (fun j hj => ?_) this
        obtain rfl : j = 0 := by omega
        simp
      | succ i =>
        have := h3 i y (by simpa using hy)
        refine CellsOk.congr (fun j hj => ?_) this
        rw [h1, Nat.mul_one, Nat.mul_one, show i + 1 + j = (i + j) + 1 by omega, List.getElem?_cons_succ]
    · cases h
def arP (P : Program) (st : St) (t : TypeId) (K : AV → St → Prop) : Prop :=
  match P.underlying t, zeroA P t with
  | some (.array _ e), some cs => match kdOf P 8 e with
    | some ks => match Nat.beq ks.length 1, unL ks cs with
      | true, some xs => match Nat.ble xs.length 1000000 with
        | true => K (.arr st.σ.length) (st.new (.row e false ks xs))
        | false => False
      | _, _ => False
    | none => False
  | _, _ => False
theorem arP_sound {P : Program} {E : En} {st : St} {ρ : Env} {H : Heap} {g : Gh} (s : Sim E st ρ H g) {t : TypeId} {K : AV → St → Prop} (h : arP P st t K) :
    ∃ l, zeroL P t = some l ∧ ∀ n, H n = none → Res E st ρ H g K (.pointer (some ⟨n, 0, none⟩)) (H.upd n (.cells ⟨l⟩ t (0, 0))) := by
  unfold arP at h
  split at h
  · rename_i len e cs hu hcs
    obtain ⟨vs, hz, hs⟩ := zeroA_sim (g := g) (H := H) (N := st.σ.length) hcs
    split at h
    · rename_i ks hks
      split at h
      · rename_i xs hk1 hxs
        have h1 := Nat.eq_of_beq_eq_true hk1
        split at h
        · rename_i hle
          have hle : xs.length ≤ 1000000 := by simpa using hle
          obtain ⟨hl, hc⟩ := unL_sim h1 hxs hs
          refine ⟨vs, hz, fun n hn => ?_⟩
          obtain ⟨g', s', r', gB, gV⟩ := s.new (o := .row e false ks xs) (c := ⟨vs⟩) (T := t) hn (.slice (some ⟨n, 0, none⟩) xs.length xs.length) (fun g' hext hz' hB hV => by
            simp only [SimO]
            refine ⟨_, _, _, hV, rfl, Nat.le_refl _, by unfold lenMax; omega, .inr ⟨0, by rw [hB], ⟨vs⟩, t, by rw [hB]; exact Sh.upd_eq, by simp [hl, h1], fun i x hx => ?_⟩⟩
            refine CellsOk.ext hext.z _ _ _ (CellsOk.congr (fun j _ => ?_) (hc i x hx))
            simp)
          refine ⟨_, _, g', s', r', ?_, rfl, h⟩
          simp only [SimV]
          exact ⟨by simp [St.new], n, _, _, gV, rfl⟩
        · exact h.elim
      · exact h.elim
    · exact h.elim
  · exact h.elim

/-- A whole array, stored. -/
def saP (P : Program) (st : St) (t : TypeId) (a : AV) (ks' : List Kd) (xs' : List (Tp ks')) (K : St → Prop) : Prop :=
  match szOf P t, a with
  | some s, .arr id => match st.σ[id]?, Nat.blt 0 s with
    | some (.row T false ks xs), true => match Kd.decs ks' ks with
      | isTrue h => xs'.length = xs.length ∧ xs'.length * ks.length = s ∧ K (st.obj id (.row T false ks (castL h xs')))
      | isFalse _ => False
    | _, _ => False
  | _, _ => False
theorem saP_sound {P : Program} {E : En} {st : St} {ρ : Env} {H : Heap} {g : Gh} (s : Sim E st ρ H g) {t : TypeId} {a : AV} {ks' : List Kd} {xs' : List (Tp ks')} {va vx : Value} {K' : St → Prop} {K : AV → St → Prop} (h : saP P st t a ks' xs' K') (ha : SimV g H st.σ.length a va) (hx : SimV g H st.σ.length (.arv ks' xs') vx)
    (hk : ∀ st', K' st' → K .undef st') : StoreW P t va vx H (Res E st ρ H g K) := by
  unfold saP at h
  split at h
  · rename_i sz id hsz
    split at h
    · rename_i T ks xs ho hpos
      have hpos : 0 < sz := by simpa using hpos
      split at h
      · rename_i hks _
        subst hks
        obtain ⟨h1, h2, h⟩ := h
        simp only [castL] at h
        simp only [SimV] at ha hx
        obtain ⟨_, b, m, c0, hV, rfl⟩ := ha
        obtain ⟨vs, rfl, hvl, hvc⟩ := hx
        obtain ⟨a, n, cap, e1, e2, e3, e4, e5⟩ := s.obj id _ ho
        have e1' := e1
        rw [hV] at e1
        cases e1
        rcases e5 with ⟨e6, _⟩ | ⟨o, e6, cs, T', hb, hle, hc⟩
        · cases e6
        · simp only [Option.some.injEq, Addr.mk.injEq] at e6
          obtain ⟨rfl, rfl, _⟩ := e6
          have hmul : xs.length * ks'.length ≤ c0 * ks'.length := Nat.mul_le_mul_right _ (by omega)
          have hcl : (Value.agg ⟨vs⟩).cells.toList = vs := rfl
          have hfit : 0 + vs.length ≤ cs.size := by rw [hvl, h1]; omega
          have hkp : 0 < ks'.length := by
            rcases Nat.eq_zero_or_pos ks'.length with e | e
            · rw [e, Nat.mul_zero] at h2; omega
            · exact e
          have hpl : ∀ v ∈ vs, plainC v = true := by
            intro v hv
            obtain ⟨q, hq⟩ := List.getElem?_of_mem hv
            have hql : q < vs.length := by
              rcases Nat.lt_or_ge q vs.length with h | h
              · exact h
              · rw [List.getElem?_eq_none h] at hq; cases hq
            have hi : q / ks'.length < xs'.length := by rw [Nat.div_lt_iff_lt_mul hkp, ← hvl]; exact hql
            obtain ⟨w, hw, hp⟩ := (hvc (q / ks'.length) xs'[q / ks'.length] (List.getElem?_eq_getElem hi)).plain (q % ks'.length) (Nat.mod_lt _ hkp)
            have e : q / ks'.length * ks'.length + q % ks'.length = q := by rw [Nat.mul_comm]; exact Nat.div_add_mod _ _
            rw [e, hq] at hw
            cases hw; exact hp
          unfold StoreW
          have hn2 : Nat.beq vs.length sz = true := by rw [hvl, h2]; exact Nat.beq_refl _
          simp only [sizeK, hsz, hcl, hn2]
          have fin : ∀ H', H' (g.B id) = some (.cells (putRow cs 0 vs) T' (0, 0)) → (∀ b', b' ≠ g.B id → H' b' = H b') → Res E st ρ H g K undef H' := by
            intro H' hb' hoth
            obtain ⟨s', r'⟩ := s.turn (o' := .row T false ks' xs') ho rfl ⟨_, _, _, hV⟩ hoth (by rw [hb']; simp) (fun _ => trivial) fun hext => by
              simp only [SimO]
              refine ⟨_, _, _, e1', by rw [h1]; exact e2, e3, e4, .inr ⟨0, rfl, _, _, hb', by rw [putRow_size]; exact hle, fun i x hx => ?_⟩⟩
              have hlt : i < xs'.length := by
                rcases Nat.lt_or_ge i xs'.length with h | h
                · exact h
                · rw [List.getElem?_eq_none h] at hx; cases hx
              refine CellsOk.ext hext.z _ _ _ (CellsOk.congr (fun j hj => ?_) (hvc i x hx))
              have hm2 : (i + 1) * ks'.length ≤ xs'.length * ks'.length := Nat.mul_le_mul_right _ (by omega)
              rw [Nat.add_mul, Nat.one_mul] at hm2
              rw [putRow_get _ _ _ _ hfit, if_pos (by omega)]
              congr 1; omega
            exact ⟨.undef, _, g, s', r', by simp only [SimV], rfl, hk _ h⟩
          refine StCells_row vs 0 H cs hb hpl (by omega) (fun he => ?_) (fun H' hb' hoth => fin H' (by simpa using hb') hoth)
          rw [he] at hvl
          simp only [List.length_nil] at hvl
          omega
      · exact h.elim
    · exact h.elim
  · exact h.elim

def u8sI (l : List UInt8) : List Value := l.map fun x => .int .u8 x.toNat

def cvP (P : Program) (st : St) (s d ot : TypeId) (x : AV) (K : AV → Prop) : Prop :=
  match isIntT P s with
  | true => match P.underlying d, x with
    | some (.int k), .int _ n => K (.int k (k.wrap n))
    | _, _ => False
  | false => match P.underlying s, P.underlying d with
    | some (.slice e), some .string => match P.underlying e, rdL st.σ [.int .u8] x with
      | some (.int .u8), some xs => match fitsT P ot (.str xs) with
        | true => K (.str xs)
        | false => False
      | _, _ => False
    | some .string, some .string => match x with
      | .str l => match fitsT P ot (.str l) with
        | true => K (.str l)
        | false => False
      | _ => False
    | _, _ => False

theorem cvP_sound {P : Program} {E : En} {st : St} {ρ : Env} {H : Heap} {g : Gh} (sm : Sim E st ρ H g) {s d ot : TypeId} {x : AV} {vx : Value} {K' : AV → Prop} {K : Value → Heap → Prop} (h : cvP P st s d ot x K') (hx : SimV g H st.σ.length x vx)
    (hk : ∀ a v, SimV g H st.σ.length a v → K' a → K v H) : ConvW P s d ot vx H K := by
  have fit : ∀ (l : List UInt8), l.length ≤ lenMax → (match fitsT P ot (.str l) with | true => K' (.str l) | false => False) → ofTy P ot K (.string (bstr l)) H := fun l hl hk' => by
    have hs : SimV g H st.σ.length (.str l) (.string (bstr l)) := by simp only [SimV]; exact ⟨trivial, hl⟩
    split at hk'
    · rename_i hf
      exact fitsT_of hf hs (hk _ _ hs hk')
    · exact hk'.elim
  unfold cvP at h
  unfold ConvW
  split at h
  · rename_i hi
    rw [hi]
    simp only
    split at h
    · rename_i k k' n hd
      simp only [SimV] at hx
      obtain ⟨rfl, _⟩ := hx
      simp only [hd]
      exact hk _ _ (by simp only [SimV]; exact ⟨trivial, wrap_InR _ _⟩) h
    · exact h.elim
  · rename_i hi
    rw [hi]
    simp only
    split at h
    · rename_i e hs hd
      split at h
      · rename_i xs he hr
        obtain ⟨a, n, c, new, rfl, hl, _, hcl, hrd, hc, _⟩ := rdL_ok sm hr hx
        have hnl := hrd.len
        simp only [List.length_cons, List.length_nil, Nat.zero_add, Nat.mul_one] at hnl hc hrd
        have hnew : new = (xs : List UInt8).map fun x => .int .u8 x.toNat := by
          apply List.ext_getElem?
          intro i
          rw [List.getElem?_map]
          by_cases hi : i < xs.length
          · have := hc i xs[i] (List.getElem?_eq_getElem hi)
            simp only [CellsOk, CellOk, Nat.add_zero] at this
            obtain ⟨⟨v, h1, h2, _⟩, _⟩ := this
            rw [h1, h2]
            have e : (xs : List UInt8)[i]? = some (xs[i] : UInt8) := List.getElem?_eq_getElem hi
            rw [e]; rfl
          · have e : (xs : List UInt8)[i]? = none := List.getElem?_eq_none (by omega)
            rw [e, List.getElem?_eq_none (by omega)]; rfl
        rw [hnew] at hrd
        exact StrW.intro (bs := (xs : List UInt8)) hs hd he hrd (fit xs (by have : @List.length UInt8 xs = n := hl; omega) h)
      · exact h.elim
    · rename_i hs hd
      split at h
      · rename_i l
        simp only [SimV] at hx
        obtain ⟨rfl, hll⟩ := hx
        unfold convert
        refine (SemW.bind _ _ _ _).2 (semW_underlying hs ?_)
        refine (SemW.bind _ _ _ _).2 (semW_underlying hd ?_)
        exact fit l hll h
      · exact h.elim
    · exact h.elim

end Go.Sh
