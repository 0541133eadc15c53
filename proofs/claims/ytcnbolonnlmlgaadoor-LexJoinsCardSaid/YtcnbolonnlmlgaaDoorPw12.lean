/-
  Contracts of methods: an object is handed on, and comes back turned.
-/
import Derived.Test.YtcnbolonnlmlgaaDoorPw11
set_option linter.unusedSectionVars false
set_option linter.unusedSimpArgs false
set_option linter.unusedVariables false
namespace Go.Sh
variable [Laid]

/-- Objects of one state, alone and numbered anew. -/
theorem Sim.pick {E : En} {st : St} {ρ : Env} {H : Heap} {g : Gh} (s : Sim E st ρ H g) {os : List AObj} {src : List (Option Nat)} (hlen : os.length = src.length)
    (hr : ∀ (j : Nat) (o : AObj) (i : Option Nat), os[j]? = some o → src[j]? = some i → (∃ id o1, i = some id ∧ st.σ[id]? = some o1 ∧ isRo o1 = false ∧ ((∃ T ks xs, o = .row T false ks xs ∧ o1 = o) ∨ (∃ T cs cs1, o = .obj T false cs ∧ o1 = .obj T false cs1))) ∨ (i = none ∧ ∃ T ks, o = .row T false ks []))
    (hd : ∀ (j j' id : Nat), src[j]? = some (some id) → src[j']? = some (some id) → j = j') :
    ∃ g'', g''.Z = g.Z ∧ Srcs g g'' 0 src ∧
      ∀ (α'' : Nat → AV) (ρ'' : Env), (∀ (j : Nat) (T : TypeId) (cs : List AV) (id : Nat), os[j]? = some (.obj T false cs) → src[j]? = some (some id) → ∃ vs, H (g.B id) = some (.cells ⟨vs⟩ T (0, 0)) ∧ SimL g'' H os.length cs vs) →
        (∀ t, SimV g'' H os.length (α'' t) (ρ'' t)) → Sim E ⟨α'', os⟩ ρ'' H g'' := by
  let g'' : Gh := ⟨g.Z, fun i => match src[i]? with | some (some id) => g.B id | _ => 0, fun i => match src[i]? with | some (some id) => g.V id | _ => .slice none 0 0⟩
  have hS : Srcs g g'' 0 src := by
    refine ⟨fun j id hj => ⟨?_, ?_⟩, fun j hj => ?_⟩
    · show (match src[0 + j]? with | some (some id) => g.V id | _ => _) = _
      rw [Nat.zero_add, hj]
    · show (match src[0 + j]? with | some (some id) => g.B id | _ => _) = _
      rw [Nat.zero_add, hj]
    · show (match src[0 + j]? with | some (some id) => g.V id | _ => _) = _
      rw [Nat.zero_add, hj]
  refine ⟨g'', rfl, hS, fun α'' ρ'' hobj hα => ?_⟩
  have part : ∀ (j : Nat) (o : AObj), os[j]? = some o → ∃ k, src[j]? = some k := fun j o hj => by
    have := get_lt hj
    exact ⟨src[j]'(by omega), by simp⟩
  have old : ∀ (j : Nat) (o : AObj), os[j]? = some o → Has g'' j o → ∃ id o1, src[j]? = some (some id) ∧ st.σ[id]? = some o1 ∧ Has g id o1 ∧ g''.B j = g.B id := by
    intro j o hj hh
    obtain ⟨k, hk⟩ := part j o hj
    rcases hr j o k hj hk with ⟨id, o1, rfl, h1, h2, h3⟩ | ⟨rfl, T, ks, rfl⟩
    · obtain ⟨hv, hb⟩ := hS.hit j id hk
      rw [Nat.zero_add] at hv hb
      refine ⟨id, o1, hk, h1, ?_, hb⟩
      rcases h3 with ⟨T, ks, xs, rfl, rfl⟩ | ⟨T, cs, cs1, rfl, rfl⟩
      · obtain ⟨a, n, c, h⟩ := hh
        exact ⟨a, n, c, by rw [← hv]; exact h⟩
      · trivial
    · have := hS.nil j hk
      rw [Nat.zero_add] at this
      obtain ⟨a, n, c, h⟩ := hh
      rw [this] at h
      cases h
  refine ⟨hα, fun j o hj => ?_, fun j o hj hh => ?_, fun i j oi oj hij hi hj hhi hhj => ?_, fun j o hj hh => ?_, s.keep, s.zsub, s.znew, s.zlive, s.lay, s.zc⟩
  · obtain ⟨k, hk⟩ := part j o hj
    rcases hr j o k hj hk with ⟨id, o1, rfl, h1, h2, h3⟩ | ⟨rfl, T, ks, rfl⟩
    · obtain ⟨hv, hb⟩ := hS.hit j id hk
      rw [Nat.zero_add] at hv hb
      rcases h3 with ⟨T, ks, xs, rfl, rfl⟩ | ⟨T, cs, cs1, rfl, rfl⟩
      · have := s.obj id _ h1
        simp only [SimO] at this ⊢
        rw [hv, hb]; exact this
      · obtain ⟨vs, h4, h5⟩ := hobj j T cs id hj hk
        exact ⟨vs, by rw [hb]; exact h4, h5⟩
    · have := hS.nil j hk
      rw [Nat.zero_add] at this
      simp only [SimO]
      exact ⟨none, 0, 0, this, rfl, Nat.le_refl _, Nat.zero_le _, .inl ⟨rfl, rfl⟩⟩
  · obtain ⟨id, o1, _, h1, h2, h3⟩ := old j o hj hh
    rw [h3]; exact s.nz id o1 h1 h2
  · obtain ⟨id, o1, h0, h1, h2, h3⟩ := old i oi hi hhi
    obtain ⟨id', o2, h4, h5, h6, h7⟩ := old j oj hj hhj
    rw [h3, h7]
    refine s.dis id id' o1 o2 (fun e => ?_) h1 h5 h2 h6
    subst e
    exact hij (hd i j id h0 h4)
  · obtain ⟨id, o1, _, h1, h2, h3⟩ := old j o hj hh
    rw [h3]; exact s.own id o1 h1 h2

def parO (T : TypeId) (cks : List PK) (ps : List Pk) (o : PTup cks) (x : PkTs ps) : St :=
  ⟨fun i => (AV.ptr 0 0 :: pksA (1 + (rowsY cks o).length) ps x).getD i .undef, .obj T false (avsY 1 cks o) :: (rowsY cks o ++ pksR ps x)⟩
/-- The results, and the object, as data. -/
def outO (T : TypeId) (cks : List PK) (rs : List Pk) (st : St) (a : AV) (K : PTup cks → PkTs rs → Prop) : Prop := match st.σ[(0 : Nat)]? with
  | some (.obj T' false cs) => match outL rs a with
    | some as => match Nat.beq T' T, frzY st.σ cks cs with
      | true, some σ1 => match frzP σ1 rs as with
        | some σ2 => match readY σ2 cks cs, takePs σ2 rs as with
          | some (o, s1), some (y, s2) => match uniqB (srcIds (s1 ++ s2)) with
            | true => K o y
            | false => False
          | _, _ => False
        | none => False
      | _, _ => False
    | none => False
  | _ => False
/-- A contract of a method. -/
def FnO (P : Program) (f : FuncId) (T : TypeId) (cks : List PK) (ps rs : List Pk) (q : PTup cks → PkTs ps → (PTup cks → PkTs rs → Prop) → Prop) : Prop :=
  ∀ (o : PTup cks) (x : PkTs ps) (K : PTup cks → PkTs rs → Prop), q o x K → ∀ (H : Heap) (g : Gh) (vs : List Value), vs.length = ps.length + 1 → Sim ⟨H, Owned g (parO T cks ps o x).σ, g.Z⟩ (parO T cks ps o x) (env0 vs) H g →
    FnW P f ⟨vs⟩ H fun v H' => ∃ a st' ρ' g', Sim ⟨H, Owned g (parO T cks ps o x).σ, g.Z⟩ st' ρ' H' g' ∧ SimV g' H' st'.σ.length a v ∧ g'.B 0 = g.B 0 ∧ outO T cks rs st' a K

theorem fnO_of {P : Program} {f : FuncId} {fn : Func} {plan : PPlan} {c : Code} {tab : Tab} {T : TypeId} {cks : List PK} {ps rs : List Pk} (k : Known P f fn plan.plan c) (ht : TabsOk P tab) (hlen : Nat.ble (ps.length + 1) fn.ntmps = true) :
    FnO P f T cks ps rs fun o x K => PCode P tab plan c (parO T cks ps o x) (PRet P fn.results.toList fun a st => outO T cks rs st a K) := by
  intro o x K h H g vs hvs s
  refine (FnP k ht (by rw [hvs]; exact hlen) s h).mono fun v H' hk => ?_
  obtain ⟨a, st', ρ', g', h1, h2, h3, h4⟩ := hk
  exact ⟨a, st', ρ', g', h1, h3, h2.ext.b 0 (by simp [parO]), h4⟩
theorem FnO.of_eq {P : Program} {f : FuncId} {T : TypeId} {cks : List PK} {ps rs : List Pk} {q q' : PTup cks → PkTs ps → (PTup cks → PkTs rs → Prop) → Prop} (h : FnO P f T cks ps rs q') (e : q = q') : FnO P f T cks ps rs q := e ▸ h
theorem FnO.mono {P : Program} {f : FuncId} {T : TypeId} {cks : List PK} {ps rs : List Pk} {q q' : PTup cks → PkTs ps → (PTup cks → PkTs rs → Prop) → Prop} (h : FnO P f T cks ps rs q) (hq : ∀ o x K, q' o x K → q o x K) : FnO P f T cks ps rs q' :=
  fun o x K hx => h o x K (hq o x K hx)

def ctObj (T : TypeId) (cks : List PK) (ps rs : List Pk) (q : PTup cks → PkTs ps → (PTup cks → PkTs rs → Prop) → Prop) : Ct := fun st args K => match args with
  | .ptr id 0 :: args => match st.σ[id]? with
    | some (.obj T' false cs) => match Nat.beq T' T, frzY st.σ cks cs with
      | true, some σ1 => match frzP σ1 ps args with
        | some σ2 => match readY σ2 cks cs, takePs σ2 ps args with
          | some (o, s1), some (x, s2) => match uniqB (srcIds (s1 ++ s2)) with
            | true => WfY cks o → WfPs ps x → q o x fun o' y => WfY cks o' → WfPs rs y →
                K (outA (pksA (st.σ.length + (rowsY cks o').length) rs y)) ⟨st.α, (goneAt (srcIds (s1 ++ s2)) 0 σ2).set id (.obj T false (avsY st.σ.length cks o')) ++ (rowsY cks o' ++ pksR rs y)⟩
            | false => False
          | _, _ => False
        | none => False
      | _, _ => False
    | _ => False
  | _ => False

theorem frzP_obj : ∀ (ps : List Pk) (as : List AV) (σ σ' : List AObj), frzP σ ps as = some σ' → ∀ {id : Nat} {T : TypeId} {r : Bool} {cs : List AV}, σ[id]? = some (.obj T r cs) → σ'[id]? = some (.obj T r cs)
  | [], [], σ, σ', h, _, _, _, _, ho => by simp only [frzP, Option.some.injEq] at h; subst h; exact ho
  | [], _ :: _, _, _, h, _, _, _, _, _ => by simp only [frzP] at h; cases h
  | _ :: _, [], _, _, h, _, _, _, _, _ => by simp only [frzP] at h; cases h
  | p :: ps, a :: as, σ, σ', h, _, _, _, _, ho => by
    simp only [frzP] at h
    split at h
    · exact frzP_obj ps as σ σ' h ho
    · split at h
      · rename_i σ1 hf
        refine frzP_obj ps as σ1 σ' h ?_
        have : ∀ (l : List AV) (σ σ' : List AObj), frzL σ l = some σ' → ∀ {id : Nat} {T : TypeId} {r : Bool} {cs : List AV}, σ[id]? = some (.obj T r cs) → σ'[id]? = some (.obj T r cs) := by
          intro l
          induction l with
          | nil => intro σ σ' h _ _ _ _ ho; simp only [frzL, Option.some.injEq] at h; subst h; exact ho
          | cons a l ih =>
            intro σ σ' h _ _ _ _ ho
            simp only [frzL] at h
            split at h
            · rename_i σ2 hf2; exact ih σ2 σ' h (frzO_obj hf2 ho)
            · cases h
        exact this _ _ _ hf ho
      · cases h

theorem Srcs.left {g g'' : Gh} {N : Nat} {s1 s2 : List (Option Nat)} (h : Srcs g g'' N (s1 ++ s2)) : Srcs g g'' N s1 :=
  ⟨fun j id hj => h.hit j id (by rw [List.getElem?_append_left]; exact hj; rcases Nat.lt_or_ge j s1.length with h | h; exact h; rw [List.getElem?_eq_none h] at hj; cases hj),
   fun j hj => h.nil j (by rw [List.getElem?_append_left]; exact hj; rcases Nat.lt_or_ge j s1.length with h | h; exact h; rw [List.getElem?_eq_none h] at hj; cases hj)⟩
theorem Srcs.right {g g'' : Gh} {N : Nat} {s1 s2 : List (Option Nat)} (h : Srcs g g'' N (s1 ++ s2)) : Srcs g g'' (N + s1.length) s2 :=
  ⟨fun j id hj => by have := h.hit (s1.length + j) id (by rw [List.getElem?_append_right (by omega), Nat.add_sub_cancel_left]; exact hj); rwa [Nat.add_assoc],
   fun j hj => by have := h.nil (s1.length + j) (by rw [List.getElem?_append_right (by omega), Nat.add_sub_cancel_left]; exact hj); rwa [Nat.add_assoc]⟩

theorem ctObj_sound {P : Program} {f : FuncId} {T : TypeId} {cks : List PK} {ps rs : List Pk} {q : PTup cks → PkTs ps → (PTup cks → PkTs rs → Prop) → Prop} (hq : FnO P f T cks ps rs q) : SoundCt P f (ctObj T cks ps rs q) := by
  intro E st ρ H g args0 vs0 K s hargs0 h
  unfold ctObj at h
  split at h
  case h_2 => exact h.elim
  rename_i id args
  split at h
  case h_2 => exact h.elim
  rename_i T' cs hobj
  split at h
  case h_2 => exact h.elim
  rename_i σ1 hT hfr1
  have hT := Nat.eq_of_beq_eq_true hT
  subst hT
  split at h
  case h_2 => exact h.elim
  rename_i σ2 hfr2
  split at h
  case h_2 => exact h.elim
  rename_i o s1 x s2 hrd htk
  split at h
  case h_2 => exact h.elim
  rename_i huq
  -- frozen rows
  obtain ⟨g1, sm1, r1, l1, f1, k1⟩ := frzY_sound cks cs st.σ σ1 g s hfr1
  obtain ⟨g2, sm2, r2, l2, f2, k2⟩ := frzP_sound ps args σ1 σ2 g1 sm1 hfr2
  have rel2 := r1.trans r2
  have hobj2 : σ2[id]? = some (.obj T' false cs) := frzP_obj _ _ _ _ hfr2 (frzY_obj _ _ _ _ hfr1 hobj)
  have hl : σ2.length = st.σ.length := l2.trans l1
  cases vs0 with
  | nil => simp only [SimL] at hargs0
  | cons v0 vs =>
  simp only [SimL] at hargs0
  obtain ⟨hv0, hargs⟩ := hargs0
  have hargs2 := SimL.ext rel2.len rel2.ext _ _ hargs
  have hv02 := SimV.ext rel2.len rel2.ext _ _ hv0
  obtain ⟨vcs, hblk, hvcs⟩ := sm2.obj id _ hobj2
  obtain ⟨hw1, hlen1, hrow1, hsim1⟩ := readY_sim sm2 hrd hvcs (fun k ks' i id' h1 h2 h3 => by
    obtain ⟨ks, xs, h4⟩ := f1 k ks' i id' h1 h2 h3
    exact ⟨ks, xs, k2 _ _ _ h4⟩)
  obtain ⟨hw2, hlen2, hrow2, hsim2⟩ := takePs_sim sm2 htk hargs2 f2
  have hnd := uniq_nodup huq
  have hrowA : ∀ (j : Nat) (o' : AObj) (i : Option Nat), (rowsY cks o ++ pksR ps x)[j]? = some o' → (s1 ++ s2)[j]? = some i → (∃ id, i = some id ∧ σ2[id]? = some o' ∧ isRo o' = false ∧ (∃ T ks xs, o' = .row T false ks xs)) ∨ (i = none ∧ ∃ T ks, o' = .row T false ks []) := by
    intro j o' i ho hi
    rcases Nat.lt_or_ge j (rowsY cks o).length with hj | hj
    · rw [List.getElem?_append_left hj] at ho
      rw [List.getElem?_append_left (by omega)] at hi
      exact hrow1 j o' i ho hi
    · rw [List.getElem?_append_right hj] at ho
      rw [List.getElem?_append_right (by omega), ← hlen1] at hi
      exact hrow2 _ o' i ho hi
  have hsrcRow : ∀ {id' : Nat}, id' ∈ srcIds (s1 ++ s2) → ∃ T ks xs, σ2[id']? = some (.row T false ks xs) := fun {id'} hm => by
    obtain ⟨j, hj⟩ := srcIds_of hm
    have hjl : j < (rowsY cks o ++ pksR ps x).length := by
      rw [List.length_append, hlen1, hlen2, ← List.length_append]
      rcases Nat.lt_or_ge j (s1 ++ s2).length with h | h
      · exact h
      · rw [List.getElem?_eq_none h] at hj; cases hj
    rcases hrowA j _ _ (List.getElem?_eq_getElem hjl) hj with ⟨id'', e, h1, _, T, ks, xs, h2⟩ | ⟨e, _⟩
    · cases e; exact ⟨T, ks, xs, by rw [h1, h2]⟩
    · cases e
  have hidn : id ∉ srcIds (s1 ++ s2) := fun hm => by
    obtain ⟨T, ks, xs, h1⟩ := hsrcRow hm
    rw [hobj2] at h1; cases h1
  -- the call's own state
  obtain ⟨g3, hZ3, hS3, hfin⟩ := sm2.pick (os := (parO T' cks ps o x).σ) (src := some id :: (s1 ++ s2)) (by simp [parO, hlen1, hlen2]) (fun j o' i ho hi => by
      cases j with
      | zero =>
        simp [parO] at ho hi
        subst ho hi
        exact .inl ⟨id, _, rfl, hobj2, rfl, .inr ⟨T', _, cs, rfl, rfl⟩⟩
      | succ j =>
        simp only [parO, List.getElem?_cons_succ] at ho hi
        rcases hrowA j o' i ho hi with ⟨id', rfl, h1, h2, T, ks, xs, rfl⟩ | h
        · exact .inl ⟨id', _, rfl, h1, h2, .inl ⟨T, ks, xs, rfl, rfl⟩⟩
        · exact .inr h)
    (srcIds_uniq (by simp only [srcIds]; exact List.nodup_cons.2 ⟨hidn, hnd⟩))
  have hS3' : Srcs g2 g3 1 (s1 ++ s2) := hS3.tail
  have hlenO : (parO T' cks ps o x).σ.length = 1 + (rowsY cks o).length + (pksR ps x).length := by simp [parO]; omega
  have hslC := hsim1 g3 1 (parO T' cks ps o x).σ.length hS3'.left (by rw [hlenO]; omega) hZ3
  have hslP := hsim2 g3 (1 + (rowsY cks o).length) (parO T' cks ps o x).σ.length (by rw [hlen1]; exact hS3'.right) (by rw [hlenO]; omega) hZ3
  have hB0 : g3.B 0 = g2.B id := by have := (hS3.hit 0 id rfl).2; simpa using this
  have hparm : SimL g3 H (parO T' cks ps o x).σ.length (AV.ptr 0 0 :: pksA (1 + (rowsY cks o).length) ps x) (v0 :: vs) := by
    simp only [SimL]
    refine ⟨?_, hslP⟩
    simp only [SimV] at hv02 ⊢
    exact ⟨by rw [hlenO]; omega, by rw [hB0]; exact hv02.2⟩
  have sO : Sim E (parO T' cks ps o x) (env0 (v0 :: vs)) H g3 := by
    refine hfin (parO T' cks ps o x).α (env0 (v0 :: vs)) (fun j T cs' id' hj hs' => ?_) (fun t => ?_)
    · cases j with
      | zero =>
        simp [parO] at hj hs'
        obtain ⟨rfl, rfl⟩ := hj
        subst hs'
        exact ⟨vcs, hblk, hslC⟩
      | succ j =>
        simp only [parO, List.getElem?_cons_succ] at hj hs'
        rcases hrowA j _ _ hj hs' with ⟨_, _, _, _, T, ks, xs, h⟩ | ⟨_, T, ks, h⟩ <;> cases h
    · exact simL_getD hparm t
  have hvl : (v0 :: vs).length = ps.length + 1 := by rw [List.length_cons, ← hargs.len, takePs_length htk]
  refine (hq o x _ (h hw1 hw2) H g3 (v0 :: vs) hvl sO.enter).mono fun v H' hk => ?_
  obtain ⟨a, st', ρ', g', s', hav, hB', hout⟩ := hk
  unfold outO at hout
  split at hout
  case h_2 => exact hout.elim
  rename_i T2 cs' hobj'
  split at hout
  case h_2 => exact hout.elim
  rename_i as hol
  split at hout
  case h_2 => exact hout.elim
  rename_i τ1 hT2 hfr1'
  have hT2 := Nat.eq_of_beq_eq_true hT2
  subst hT2
  split at hout
  case h_2 => exact hout.elim
  rename_i τ2 hfr2'
  split at hout
  case h_2 => exact hout.elim
  rename_i o' t1 y t2 hrd' htk'
  split at hout
  case h_2 => exact hout.elim
  rename_i huq'
  obtain ⟨g4, sn1, rn1, ln1, fn1, kn1⟩ := frzY_sound cks cs' st'.σ τ1 g' s' hfr1'
  obtain ⟨g5, sn2, rn2, ln2, fn2, _⟩ := frzP_sound rs as τ1 τ2 g4 sn1 hfr2'
  have reln := rn1.trans rn2
  have hobjn : τ2[0]? = some (.obj T2 false cs') := frzP_obj _ _ _ _ hfr2' (frzY_obj _ _ _ _ hfr1' hobj')
  obtain ⟨ws, hws, hwsF⟩ := outA_sim hol (takePs_length htk') hav
  have hws5 := SimL.ext reln.len reln.ext _ _ hws
  obtain ⟨vcn, hblkn, hvcn⟩ := sn2.obj 0 _ hobjn
  have hB5 : g5.B 0 = g2.B id := by
    have h1 : g5.B 0 = g'.B 0 := reln.ext.b 0 (get_lt hobj')
    rw [h1, hB', hB0]
  rw [hB5] at hblkn
  obtain ⟨hwn1, hlenn1, hrown1, hsimn1⟩ := readY_sim sn2 hrd' hvcn (fun k ks' i id' h1 h2 h3 => by
    obtain ⟨ks, xs, h4⟩ := fn1 k ks' i id' h1 h2 h3
    obtain ⟨_, _, _, _, _, k5⟩ := frzP_sound rs as τ1 τ2 g4 sn1 hfr2'
    exact ⟨ks, xs, k5 _ _ _ h4⟩)
  obtain ⟨hwn2, hlenn2, hrown2, hsimn2⟩ := takePs_sim sn2 htk' hws5 fn2
  have hndn := uniq_nodup huq'
  -- what is owned by the call
  have ownE : ∀ b, Owned g3 (parO T2 cks ps o x).σ b → ∃ id', (id' = id ∨ id' ∈ srcIds (s1 ++ s2)) ∧ ∃ o1, σ2[id']? = some o1 ∧ Has g2 id' o1 ∧ b = g2.B id' := by
    rintro b ⟨i, oi, hi, hh, rfl⟩
    cases i with
    | zero => exact ⟨id, .inl rfl, _, hobj2, trivial, hB0⟩
    | succ i =>
      simp only [parO, List.getElem?_cons_succ] at hi
      have hil : i < (rowsY cks o ++ pksR ps x).length := get_lt hi
      obtain ⟨k, hk⟩ : ∃ k, (s1 ++ s2)[i]? = some k := ⟨(s1 ++ s2)[i]'(by rw [List.length_append] at hil ⊢; omega), by simp⟩
      rcases hrowA i oi k hi hk with ⟨id', rfl, h1, h2, T, ks, xs, rfl⟩ | ⟨rfl, T, ks, rfl⟩
      · have hh' := hS3'.hit i id' hk
        rw [Nat.add_comm 1 i] at hh'
        refine ⟨id', .inr (srcIds_mem hk), _, h1, ?_, hh'.2⟩
        obtain ⟨a, n, c, h⟩ := hh
        exact ⟨a, n, c, by rw [← hh'.1]; exact h⟩
      · have hh' := hS3'.nil i hk
        rw [Nat.add_comm 1 i] at hh'
        obtain ⟨a, n, c, h⟩ := hh
        rw [hh'] at h
        cases h
  have liveB : ∀ (i : Nat) (oi : AObj), σ2[i]? = some oi → Has g2 i oi → H (g2.B i) ≠ none := fun i oi hi hh => by
    obtain ⟨c, T, hb⟩ := sm2.live hi hh
    rw [hb]; simp
  have notOwned : ∀ (i : Nat) (oi : AObj), i ≠ id → i ∉ srcIds (s1 ++ s2) → σ2[i]? = some oi → Has g2 i oi → ¬ Owned g3 (parO T2 cks ps o x).σ (g2.B i) := fun i oi hne hn hi hh ho => by
    obtain ⟨id', hid', o1, h1, h2, h3⟩ := ownE _ ho
    refine sm2.dis i id' oi o1 (fun e => ?_) hi h1 hh h2 h3
    subst e
    rcases hid' with h | h
    · exact hne h
    · exact hn h
  have zNotOwned : ∀ b, g2.Z b → ¬ Owned g3 (parO T2 cks ps o x).σ b := fun b hz ho => by
    obtain ⟨id', _, o1, h1, h2, rfl⟩ := ownE _ ho
    exact sm2.nz id' o1 h1 h2 hz
  have same : ∀ b, H b ≠ none → ¬ Owned g3 (parO T2 cks ps o x).σ b → H' b = H b := fun b hb ho => sn2.keep.same b ho hb
  -- the state behind the call
  let rw' := rowsY cks o' ++ pksR rs y
  let g6 : Gh := ⟨g5.Z, fun i => if i < σ2.length then g2.B i else match (t1 ++ t2)[i - σ2.length]? with | some (some id) => g5.B id | _ => 0,
    fun i => if i < σ2.length then g2.V i else match (t1 ++ t2)[i - σ2.length]? with | some (some id) => g5.V id | _ => .slice none 0 0⟩
  have hext : Ext σ2.length g2 H g6 H' := ⟨fun b hz => ⟨sn2.zsub b (by show g3.Z b; rw [hZ3]; exact hz), same b (sm2.zlive b hz) (zNotOwned b hz)⟩, fun i hi => if_pos hi, fun i hi => if_pos hi⟩
  have hS6 : Srcs g5 g6 σ2.length (t1 ++ t2) := by
    refine ⟨fun j id hj => ⟨?_, ?_⟩, fun j hj => ?_⟩
    · show (if σ2.length + j < σ2.length then _ else _) = _
      rw [if_neg (by omega), Nat.add_sub_cancel_left, hj]
    · show (if σ2.length + j < σ2.length then _ else _) = _
      rw [if_neg (by omega), Nat.add_sub_cancel_left, hj]
    · show (if σ2.length + j < σ2.length then _ else _) = _
      rw [if_neg (by omega), Nat.add_sub_cancel_left, hj]
  have hgl := goneAt_length (srcIds (s1 ++ s2)) σ2 0
  let base := (goneAt (srcIds (s1 ++ s2)) 0 σ2).set id (.obj T2 false (avsY σ2.length cks o'))
  have hbl : base.length = σ2.length := by simp [base, hgl]
  have hidl := get_lt hobj2
  have hN6 : (base ++ (rowsY cks o' ++ pksR rs y)).length = σ2.length + ((rowsY cks o').length + (pksR rs y).length) := by simp [hbl]
  have parts : ∀ (i : Nat) (oi : AObj), (base ++ (rowsY cks o' ++ pksR rs y))[i]? = some oi → (i < σ2.length ∧ ((i ∈ srcIds (s1 ++ s2) ∧ oi = .gone) ∨ (i = id ∧ oi = .obj T2 false (avsY σ2.length cks o')) ∨ (i ≠ id ∧ i ∉ srcIds (s1 ++ s2) ∧ σ2[i]? = some oi))) ∨
      (∃ j, i = σ2.length + j ∧ (rowsY cks o' ++ pksR rs y)[j]? = some oi ∧ ∃ k, (t1 ++ t2)[j]? = some k) := by
    intro i oi hi
    rcases Nat.lt_or_ge i σ2.length with h | h
    · rw [List.getElem?_append_left (by omega)] at hi
      refine .inl ⟨h, ?_⟩
      simp only [base, List.getElem?_set] at hi
      by_cases e : id = i
      · subst e
        rw [if_pos rfl, if_pos (by omega)] at hi
        cases hi
        exact .inr (.inl ⟨rfl, rfl⟩)
      · rw [if_neg e] at hi
        have := goneAt_get _ _ _ _ _ hi
        simp only [Nat.zero_add] at this
        rcases this with ⟨h1, h2⟩ | ⟨h1, h2⟩
        · exact .inl ⟨h1, h2⟩
        · exact .inr (.inr ⟨fun e' => e e'.symm, h1, h2⟩)
    · rw [List.getElem?_append_right (by omega), hbl] at hi
      have : i - σ2.length < (rowsY cks o' ++ pksR rs y).length := get_lt hi
      rw [List.length_append] at this
      exact .inr ⟨i - σ2.length, by omega, hi, (t1 ++ t2)[i - σ2.length]'(by rw [List.length_append]; omega), by simp⟩
  have hrowN : ∀ (j : Nat) (oj : AObj) (i : Option Nat), (rowsY cks o' ++ pksR rs y)[j]? = some oj → (t1 ++ t2)[j]? = some i → (∃ id, i = some id ∧ τ2[id]? = some oj ∧ isRo oj = false ∧ (∃ T ks xs, oj = .row T false ks xs)) ∨ (i = none ∧ ∃ T ks, oj = .row T false ks []) := by
    intro j oj i ho hi
    rcases Nat.lt_or_ge j (rowsY cks o').length with hj | hj
    · rw [List.getElem?_append_left hj] at ho
      rw [List.getElem?_append_left (by omega)] at hi
      exact hrown1 j oj i ho hi
    · rw [List.getElem?_append_right hj] at ho
      rw [List.getElem?_append_right (by omega), ← hlenn1] at hi
      exact hrown2 _ oj i ho hi
  have newOld : ∀ (j : Nat) (oj : AObj) (k : Option Nat), (rowsY cks o' ++ pksR rs y)[j]? = some oj → (t1 ++ t2)[j]? = some k → Has g6 (σ2.length + j) oj → ∃ id' o1, k = some id' ∧ id' ≠ 0 ∧ τ2[id']? = some o1 ∧ Has g5 id' o1 ∧ g6.B (σ2.length + j) = g5.B id' := by
    intro j oj k hj hk hh
    rcases hrowN j oj k hj hk with ⟨id', rfl, h1, _, T, ks, xs, rfl⟩ | ⟨rfl, T, ks, rfl⟩
    · obtain ⟨hv, hb⟩ := hS6.hit j id' hk
      obtain ⟨a, n, c, h⟩ := hh
      refine ⟨id', _, rfl, fun e => ?_, h1, ⟨a, n, c, by rw [← hv]; exact h⟩, hb⟩
      subst e
      rw [hobjn] at h1; cases h1
    · obtain ⟨a, n, c, h⟩ := hh
      rw [hS6.nil j hk] at h
      cases h
  have newBlk : ∀ id' o1, id' ≠ 0 → τ2[id']? = some o1 → Has g5 id' o1 → ∀ (i : Nat) (oi : AObj), i ∉ srcIds (s1 ++ s2) → σ2[i]? = some oi → Has g2 i oi → g2.B i ≠ g5.B id' := by
    intro id' o1 h0 h1 h2 i oi hn hi hh e
    by_cases hii : i = id
    · subst hii
      rw [← hB5] at e
      exact sn2.dis 0 id' _ o1 (fun e' => h0 e'.symm) hobjn h1 trivial h2 e
    · rcases sn2.own id' o1 h1 h2 with h | h
      · exact notOwned i oi hii hn hi hh (by rw [e]; exact h)
      · exact liveB i oi hi hh (by rw [e]; exact h)
  have hN6' : σ2.length + (t1 ++ t2).length ≤ (base ++ (rowsY cks o' ++ pksR rs y)).length := by rw [hN6, List.length_append]; omega
  have hslC6 := hsimn1 g6 σ2.length (base ++ (rowsY cks o' ++ pksR rs y)).length hS6.left (by rw [List.length_append] at hN6'; omega) rfl
  have hslP6 := hsimn2 g6 (σ2.length + (rowsY cks o').length) (base ++ (rowsY cks o' ++ pksR rs y)).length (by rw [hlenn1]; exact hS6.right) (by rw [hN6]; omega) rfl
  have Eown : ∀ b, (Owned g3 (parO T2 cks ps o x).σ b ∨ H b = none) → E.O0 b ∨ E.H0 b = none := fun b hb => by
    rcases hb with h | h
    · obtain ⟨id', _, o1, h1, h2, rfl⟩ := ownE _ h
      exact sm2.own id' o1 h1 h2
    · exact .inr (sm2.keep.free h)
  have s6 : Sim E ⟨st.α, base ++ (rowsY cks o' ++ pksR rs y)⟩ ρ H' g6 := by
    refine ⟨fun t => ?_, fun i oi hi => ?_, fun i oi hi hh => ?_, fun i j oi oj hij hi hj hhi hhj => ?_, fun i oi hi hh => ?_, ⟨fun b hb h0 => ?_, fun b h0 => ?_⟩, fun b hz => ?_, fun b hz => ?_, fun b hz => sn2.zlive b hz, s.lay, fun b hz => by
      rcases sn2.zc b hz with h | h
      · have h1 : g2.Z b := by have : g3.Z b := h; rwa [hZ3] at this
        rcases sm2.zc b h1 with h2 | h2
        · exact .inl h2
        · exact .inr fun ds => by rw [same b (sm2.zlive b h1) (zNotOwned b h1)]; exact h2 ds
      · exact .inr h⟩
    · simp only [hN6]; exact SimV.ext (Nat.le_add_right _ _) hext _ _ (sm2.tmp t)
    · rcases parts i oi hi with ⟨h1, ⟨_, rfl⟩ | ⟨rfl, rfl⟩ | ⟨h0, h2, h3⟩⟩ | ⟨j, rfl, h2, k, hk⟩
      · trivial
      · exact ⟨vcn, by rw [hext.b _ h1]; exact hblkn, hslC6⟩
      · simp only [hN6]
        exact SimO.ext (Nat.le_add_right _ _) hext h1 (fun hh => same _ (liveB i oi h3 hh) (notOwned i oi h0 h2 h3 hh)) (sm2.obj i oi h3)
      · rcases hrowN j oi k h2 hk with ⟨id', rfl, h3, _, T, ks, xs, rfl⟩ | ⟨rfl, T, ks, rfl⟩
        · obtain ⟨hv, hb⟩ := hS6.hit j id' hk
          have := sn2.obj id' _ h3
          simp only [SimO] at this ⊢
          rw [hv, hb]; exact this
        · simp only [SimO]
          exact ⟨none, 0, 0, hS6.nil j hk, rfl, Nat.le_refl _, Nat.zero_le _, .inl ⟨rfl, rfl⟩⟩
    · rcases parts i oi hi with ⟨h1, ⟨_, rfl⟩ | ⟨rfl, rfl⟩ | ⟨h0, h2, h3⟩⟩ | ⟨j, rfl, h2, k, hk⟩
      · exact hh.elim
      · rw [hext.b _ h1, ← hB5]; exact sn2.nz 0 _ hobjn trivial
      · rw [hext.b i h1]
        have hh1 := (Has.ext hext h1).1 hh
        intro hz
        rcases sn2.znew _ hz with h | h | h
        · exact sm2.nz i oi h3 hh1 (by have : g3.Z (g2.B i) := h; rwa [hZ3] at this)
        · exact liveB i oi h3 hh1 h
        · exact notOwned i oi h0 h2 h3 hh1 h
      · obtain ⟨id', o1, rfl, h3, h4, h5, h6⟩ := newOld j oi k h2 hk hh
        rw [h6]; exact sn2.nz id' o1 h4 h5
    · -- each owner has a block of its own
      have asOld : ∀ (i : Nat) (oi : AObj), (base ++ (rowsY cks o' ++ pksR rs y))[i]? = some oi → Has g6 i oi → (i < σ2.length ∧ i ∉ srcIds (s1 ++ s2) ∧ ∃ o1, σ2[i]? = some o1 ∧ Has g2 i o1) ∨ (∃ j id' o1, i = σ2.length + j ∧ (t1 ++ t2)[j]? = some (some id') ∧ id' ≠ 0 ∧ τ2[id']? = some o1 ∧ Has g5 id' o1 ∧ g6.B i = g5.B id') := by
        intro i oi hi hh
        rcases parts i oi hi with ⟨h1, ⟨_, rfl⟩ | ⟨rfl, rfl⟩ | ⟨h0, h2, h3⟩⟩ | ⟨j, rfl, h2, k, hk⟩
        · exact hh.elim
        · exact .inl ⟨h1, hidn, _, hobj2, trivial⟩
        · exact .inl ⟨h1, h2, oi, h3, (Has.ext hext h1).1 hh⟩
        · obtain ⟨id', o1, rfl, h3, h4, h5, h6⟩ := newOld j oi k h2 hk hh
          exact .inr ⟨j, id', o1, rfl, hk, h3, h4, h5, h6⟩
      rcases asOld i oi hi hhi with ⟨h1, h2, o1, h3, h4⟩ | ⟨j1, id1, o1, rfl, h2, h3, h4, h5, h6⟩
      · rcases asOld j oj hj hhj with ⟨h5, h6, o2, h7, h8⟩ | ⟨j2, id2, o2, rfl, h6, h7, h8, h9, h10⟩
        · rw [hext.b i h1, hext.b j h5]; exact sm2.dis i j o1 o2 hij h3 h7 h4 h8
        · rw [hext.b i h1, h10]; exact newBlk id2 o2 h7 h8 h9 i o1 h2 h3 h4
      · rcases asOld j oj hj hhj with ⟨h7, h8, o2, h9, h10⟩ | ⟨j2, id2, o2, rfl, h7, h8, h9, h10, h11⟩
        · rw [hext.b j h7, h6]; exact fun e => newBlk id1 o1 h3 h4 h5 j o2 h8 h9 h10 e.symm
        · rw [h6, h11]
          refine sn2.dis id1 id2 o1 o2 (fun e => ?_) h4 h9 h5 h10
          subst e
          exact hij (by rw [srcIds_uniq hndn j1 j2 id1 h2 h7])
    · rcases parts i oi hi with ⟨h1, ⟨_, rfl⟩ | ⟨rfl, rfl⟩ | ⟨h0, h2, h3⟩⟩ | ⟨j, rfl, h2, k, hk⟩
      · exact hh.elim
      · rw [hext.b _ h1]; exact sm2.own _ _ hobj2 trivial
      · rw [hext.b i h1]; exact sm2.own i oi h3 ((Has.ext hext h1).1 hh)
      · obtain ⟨id', o1, rfl, h3, h4, h5, h6⟩ := newOld j oi k h2 hk hh
        rw [h6]
        exact Eown _ (sn2.own id' o1 h4 h5)
    · have hbl' := sm2.keep.live b h0
      rw [same b hbl' fun ho => by
        rcases Eown b (.inl ho) with h | h
        · exact hb h
        · exact h0 h]
      exact sm2.keep.same b hb h0
    · exact sn2.keep.live b (sm2.keep.live b h0)
    · exact sn2.zsub b (by show g3.Z b; rw [hZ3]; exact sm2.zsub b hz)
    · rcases sn2.znew b hz with h | h | h
      · exact sm2.znew b (by have : g3.Z b := h; rwa [hZ3] at this)
      · exact .inr (.inl (sm2.keep.free h))
      · rcases Eown b (.inl h) with h | h
        · exact .inr (.inr h)
        · exact .inr (.inl h)
  have rel : Rel ⟨st.α, σ2⟩ H g2 ⟨st.α, base ++ (rowsY cks o' ++ pksR rs y)⟩ H' g6 := by
    refine ⟨by rw [hN6]; exact Nat.le_add_right _ _, hext, fun i oi ho hr => ?_⟩
    have ho' : σ2[i]? = some oi := ho
    have hn : i ∉ srcIds (s1 ++ s2) := fun hm => by
      obtain ⟨T, ks, xs, h1⟩ := hsrcRow hm
      rw [ho'] at h1; cases h1; simp [isRo] at hr
    have hne : i ≠ id := fun e => by subst e; rw [hobj2] at ho'; cases ho'; simp [isRo] at hr
    refine ⟨?_, fun hh => same _ (liveB i oi ho' hh) (notOwned i oi hne hn ho' hh)⟩
    rw [List.getElem?_append_left (by rw [hbl]; exact get_lt ho')]
    simp only [base, List.getElem?_set]
    rw [if_neg (fun e => hne e.symm)]
    exact goneAt_keep _ _ 0 i oi (by simpa using hn) ho'
  refine ⟨_, ⟨st.α, (goneAt (srcIds (s1 ++ s2)) 0 σ2).set id (.obj T2 false (avsY st.σ.length cks o')) ++ (rowsY cks o' ++ pksR rs y)⟩, g6, ?_, ?_, ?_, rfl, hout hwn1 hwn2⟩
  · rw [← hl]; exact s6
  · rw [← hl]; exact rel2.trans rel
  · rw [← hl]
    exact hwsF g6 H' _ (pksA (σ2.length + (rowsY cks o').length) rs y) (pksA_length _ _ _) hslP6

end Go.Sh
