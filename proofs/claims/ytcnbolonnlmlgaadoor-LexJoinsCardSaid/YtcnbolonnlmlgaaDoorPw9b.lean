/-
  What is handed in and out; loops over functions: what they ask of a function.
-/
import Derived.Test.YtcnbolonnlmlgaaDoorPw9
set_option linter.unusedSectionVars false
set_option linter.unusedSimpArgs false
set_option linter.unusedVariables false
namespace Go.Sh
variable [Laid]

/-! ### What is handed in and out -/
inductive Pk where
  | int (k : IntKind) | bool | str | lst (ks : List Kd) | agg (ks : List Kd) | err | own (T : TypeId) (ks : List Kd) | fn (f : Nat) | nil
def PkT : Pk → Type
  | .int _ => Int
  | .bool => Bool
  | .str => List UInt8
  | .lst ks => List (Tp ks)
  | .agg ks => Tp ks
  | .err => Bool
  | .own _ ks => List (Tp ks)
  | .fn _ => Unit
  | .nil => Unit
def PkTs : List Pk → Type
  | [] => Unit
  | p :: ps => PkT p × PkTs ps
def WfPk : (p : Pk) → PkT p → Prop
  | .int k, n => InR k n
  | .bool, _ => True
  | .str, s => s.length ≤ lenMax
  | .lst ks, xs => WfE (.lst ks) xs
  | .agg ks, x => WfT ks x
  | .err, _ => True
  | .own _ ks, xs => WfE (.lst ks) xs
  | .fn _, _ => True
  | .nil, _ => True
def WfPs : (ps : List Pk) → PkTs ps → Prop
  | [], _ => True
  | p :: ps, x => WfPk p x.1 ∧ WfPs ps x.2
/-- Data as an abstract value; rows of one's own are numbered from N on. -/
def pkA (N : Nat) : (p : Pk) → PkT p → AV
  | .int k, n => .int k n
  | .bool, b => .bool b
  | .str, s => .str s
  | .lst ks, xs => .lst ks xs
  | .agg ks, x => .agg (lvT ks x)
  | .err, b => .err b
  | .own _ _, _ => .row N
  | .fn f, _ => .fn f []
  | .nil, _ => .nils
def isOwn : Pk → Bool
  | .own _ _ => true
  | _ => false
def pksA (N : Nat) : (ps : List Pk) → PkTs ps → List AV
  | [], _ => []
  | p :: ps, x => pkA N p x.1 :: pksA (match isOwn p with | true => N + 1 | false => N) ps x.2
def pksR : (ps : List Pk) → PkTs ps → List AObj
  | [], _ => []
  | .own T ks :: ps, x => .row T false ks x.1 :: pksR ps x.2
  | .int _ :: ps, x => pksR ps x.2
  | .bool :: ps, x => pksR ps x.2
  | .str :: ps, x => pksR ps x.2
  | .lst _ :: ps, x => pksR ps x.2
  | .agg _ :: ps, x => pksR ps x.2
  | .err :: ps, x => pksR ps x.2
  | .fn _ :: ps, x => pksR ps x.2
  | .nil :: ps, x => pksR ps x.2
/-- The blocks that a state's objects own. -/
def Owned (g : Gh) (σ : List AObj) : Nat → Prop := fun b => ∃ (i : Nat) (o : AObj), σ[i]? = some o ∧ Has g i o ∧ b = g.B i
theorem Sim.layH {E : En} {st : St} {ρ : Env} {H : Heap} {g : Gh} (s : Sim E st ρ H g) : (∀ b, Laid.blocks b = true → H b = E.H0 b) ∧ Sh.layH H = Sh.layH E.H0 := by
  have h : ∀ b, Laid.blocks b = true → H b = E.H0 b := fun b hb => s.keep.same b (s.lay.own b hb) (s.lay.live b hb)
  refine ⟨h, funext fun b => ?_⟩
  unfold Sh.layH
  split
  · exact h b (by assumption)
  · rfl
theorem Sim.layE {E : En} {st : St} {ρ : Env} {H : Heap} {g : Gh} (s : Sim E st ρ H g) {Z : Nat → Prop} : LayE ⟨H, Owned g st.σ, Z⟩ where
  own := fun b hb ⟨i, o, h1, h2, h3⟩ => by
    subst h3
    rcases s.own i o h1 h2 with h | h
    · exact s.lay.own _ hb h
    · exact s.lay.live _ hb h
  live := fun b hb => by
    show H b ≠ none
    rw [s.layH.1 b hb]; exact s.lay.live b hb
  ok := by
    show Laid.ok (Sh.layH H)
    rw [s.layH.2]; exact s.lay.ok
theorem Sim.enter {E : En} {st : St} {ρ : Env} {H : Heap} {g : Gh} (s : Sim E st ρ H g) : Sim ⟨H, Owned g st.σ, g.Z⟩ st ρ H g :=
  { s with own := fun i o h hh => .inl ⟨i, o, h, hh, rfl⟩, keep := Keep.refl _ _, zsub := fun _ h => h, znew := fun _ h => .inl h, lay := s.layE, zc := fun _ h => .inl h }


theorem pksA_length : ∀ (ps : List Pk) (x : PkTs ps) (N : Nat), (pksA N ps x).length = ps.length
  | [], _, _ => rfl
  | p :: ps, x, N => by simp [pksA, pksA_length ps]

/-! ### Other heaps -/
/-- Others turn what is not ours. -/
theorem Sim.other {E : En} {st : St} {ρ : Env} {H H' : Heap} {g : Gh} (s : Sim E st ρ H g) (hz : ∀ b, g.Z b → H' b = H b) (ho : ∀ (i : Nat) (o : AObj), st.σ[i]? = some o → Has g i o → H' (g.B i) = H (g.B i)) (hk : Keep E.O0 E.H0 H') :
    Sim E st ρ H' g ∧ Rel st H g st H' g := by
  have hext : Ext st.σ.length g H g H' := ⟨fun b hb => ⟨hb, hz b hb⟩, fun _ _ => rfl, fun _ _ => rfl⟩
  exact ⟨⟨fun t => SimV.ext (Nat.le_refl _) hext _ _ (s.tmp t), fun i o hi => SimO.ext (Nat.le_refl _) hext (get_lt hi) (ho i o hi) (s.obj i o hi), s.nz, s.dis, s.own, hk, s.zsub, s.znew, fun b hb => by rw [hz b hb]; exact s.zlive b hb, s.lay, zc_ext s.zc hz⟩,
    ⟨Nat.le_refl _, hext, fun i o hi _ => ⟨hi, ho i o hi⟩⟩⟩
/-- From now on, with these blocks as one's own. -/
theorem Sim.rebase {E : En} {st : St} {ρ : Env} {H : Heap} {g : Gh} (s : Sim E st ρ H g) {W : Nat → Prop} (hW : ∀ (i : Nat) (o : AObj), st.σ[i]? = some o → Has g i o → W (g.B i)) (hl : ∀ b, Laid.blocks b = true → ¬ W b) : Sim ⟨H, W, g.Z⟩ st ρ H g :=
  { s with own := fun i o h hh => .inl (hW i o h hh), keep := Keep.refl _ _, zsub := fun _ h => h, znew := fun _ h => .inl h, zc := fun _ h => .inl h,
           lay := ⟨hl, fun b hb => by show H b ≠ none; rw [s.layH.1 b hb]; exact s.lay.live b hb, by show Laid.ok (Sh.layH H); rw [s.layH.2]; exact s.lay.ok⟩ }
theorem Sim.unbase {E : En} {st st' : St} {ρ ρ' : Env} {H H' : Heap} {g g' : Gh} {W : Nat → Prop} (s : Sim E st ρ H g) (s' : Sim ⟨H, W, g.Z⟩ st' ρ' H' g') (hW : ∀ b, W b → E.O0 b ∨ E.H0 b = none) (hz : ∀ b, g.Z b → H' b = H b) : Sim E st' ρ' H' g' :=
  { s' with
    own := fun i o h hh => by
      rcases s'.own i o h hh with h | h
      · exact hW _ h
      · exact .inr (s.keep.free h)
    keep := ⟨fun b hb h0 => by
      have h1 := s.keep.same b hb h0
      rw [← h1]
      refine s'.keep.same b (fun hw => ?_) (by rw [h1]; exact h0)
      rcases hW b hw with h | h
      · exact hb h
      · exact h0 h, fun b h0 => s'.keep.live b (s.keep.live b h0)⟩
    zsub := fun b hb => s'.zsub b (s.zsub b hb)
    znew := fun b hb => by
      rcases s'.znew b hb with h | h | h
      · exact s.znew b h
      · exact .inr (.inl (s.keep.free h))
      · rcases hW b h with h | h
        · exact .inr (.inr h)
        · exact .inr (.inl h)
    lay := s.lay
    zc := fun b hb => by
      rcases s'.zc b hb with h | h
      · have h' : g.Z b := h
        rcases s.zc b h' with h | h
        · exact .inl h
        · exact .inr (by rw [hz b h']; exact h)
      · exact .inr h }

/-- Objects are let go. -/
def goneAll : List Nat → List AObj → List AObj
  | [], σ => σ
  | i :: ids, σ => goneAll ids (σ.set i .gone)
theorem goneAll_length : ∀ (ids : List Nat) (σ : List AObj), (goneAll ids σ).length = σ.length
  | [], _ => rfl
  | i :: ids, σ => by simp only [goneAll]; rw [goneAll_length ids]; simp
theorem goneAll_get : ∀ (ids : List Nat) (σ : List AObj) (i : Nat) (o : AObj), (goneAll ids σ)[i]? = some o → o = .gone ∨ (i ∉ ids ∧ σ[i]? = some o)
  | [], _, _, _, h => .inr ⟨by simp, h⟩
  | k :: ids, σ, i, o, h => by
    simp only [goneAll] at h
    rcases goneAll_get ids _ i o h with h | ⟨h1, h2⟩
    · exact .inl h
    · rw [List.getElem?_set] at h2
      split at h2
      · split at h2
        · cases h2; exact .inl rfl
        · cases h2
      · rename_i hne
        exact .inr ⟨by simp only [List.mem_cons, not_or]; exact ⟨fun e => hne e.symm, h1⟩, h2⟩
theorem Sim.dropAll {E : En} {ρ : Env} {H : Heap} {g : Gh} {α : Nat → AV} : ∀ (ids : List Nat) (σ : List AObj), ids.Nodup → (∀ id ∈ ids, ∃ o, σ[id]? = some o ∧ isRo o = false) → Sim E ⟨α, σ⟩ ρ H g → Sim E ⟨α, goneAll ids σ⟩ ρ H g ∧ Rel ⟨α, σ⟩ H g ⟨α, goneAll ids σ⟩ H g
  | [], σ, _, _, s => ⟨s, .refl _ _ _⟩
  | i :: ids, σ, hn, h, s => by
    obtain ⟨o, h1, h2⟩ := h i List.mem_cons_self
    obtain ⟨hni, hn⟩ := List.nodup_cons.1 hn
    obtain ⟨s1, r1⟩ := s.drop (id := i) h1 h2
    obtain ⟨s2, r2⟩ := Sim.dropAll ids (σ.set i .gone) hn (fun id hid => by
      obtain ⟨o', h3, h4⟩ := h id (List.mem_cons_of_mem _ hid)
      exact ⟨o', by rw [List.getElem?_set, if_neg (fun e => hni (by rw [e]; exact hid))]; exact h3, h4⟩) s1
    exact ⟨s2, r1.trans r2⟩

/-! ### Functions that are looped over -/
/-- What a round is handed, in blocks that stay. -/
def ArgIs (Z : Nat → Prop) (H : Heap) (ps : List Pk) (x : PkTs ps) (vs : List Value) : Prop := SimL ⟨Z, fun _ => 0, fun _ => .nilFunc⟩ H 0 (pksA 0 ps x) vs
/-- Who loops: what holds between the rounds, with so many still to come, and when no more are wanted. Z: what nobody turns; W: what the rounds turn. -/
structure Cons (P : Program) (l : Nat) (ps : List Pk) (Hs : Heap) (bs : List Nat) where
  J : (Nat → Prop) → (Nat → Prop) → List (PkTs ps) → Heap → Prop
  X : (Nat → Prop) → (Nat → Prop) → Heap → Prop
  stJ : ∀ {Z W : Nat → Prop} {r : List (PkTs ps)} {H H' : Heap}, J Z W r H → (∀ b, H b ≠ none → Z b ∨ W b ∨ (Hs b ≠ none ∧ b ∉ bs) → H' b = H b) → (∀ b, H b ≠ none → H' b ≠ none) → J Z W r H'
  stX : ∀ {Z W : Nat → Prop} {H H' : Heap}, X Z W H → (∀ b, H b ≠ none → Z b ∨ W b ∨ (Hs b ≠ none ∧ b ∉ bs) → H' b = H b) → (∀ b, H b ≠ none → H' b ≠ none) → X Z W H'
  ndJ : ∀ {Z W : Nat → Prop} {r : List (PkTs ps)} {H : Heap}, J Z W r H → ∀ b, Z b ∨ W b → Hs b ≠ none ∨ ∀ ds, H b ≠ some (.deferred ds)
  ndX : ∀ {Z W : Nat → Prop} {H : Heap}, X Z W H → ∀ b, Z b ∨ W b → Hs b ≠ none ∨ ∀ ds, H b ≠ some (.deferred ds)
  round : ∀ {Z W Zx : Nat → Prop} {x : PkTs ps} {r : List (PkTs ps)} {H : Heap} {vs : List Value}, J Z W (x :: r) H → ArgIs Zx H ps x vs →
    (∀ b, Zx b → Z b ∨ (¬ W b ∧ (∃ cs T q, H b = some (.cells cs T q)) ∧ (b ∈ bs ∨ Hs b = none))) →
    YieldW P l vs H fun v H' => (∀ b, H b ≠ none → ¬ W b → H' b = H b) ∧ (∀ b, H b ≠ none → H' b ≠ none) ∧ ∃ Z' W' : Nat → Prop, (∀ b, Z b ∨ Zx b → Z' b ∧ H' b = H b) ∧ (∀ b, W' b → W b ∨ H b = none) ∧
      (∀ b, Z' b → Z b ∨ Zx b ∨ W b ∨ H b = none) ∧ (∀ b, Z' b ∨ W' b → H' b ≠ none) ∧ (∀ b, W' b → ¬ Z' b) ∧ ((v = .bool true ∧ J Z' W' r H') ∨ (v = .bool false ∧ X Z' W' H'))
theorem Cons.shut {P : Program} {l : Nat} {ps : List Pk} {Hs : Heap} {bs : List Nat} (C : Cons P l ps Hs bs) {H H' : Heap} (hs : Shut Hs H H') (h : ∃ Z W, C.J Z W [] H ∨ C.X Z W H) : ∃ Z W, C.J Z W [] H' ∨ C.X Z W H' := by
  have same : ∀ (Z W : Nat → Prop), (∀ b, Z b ∨ W b → Hs b ≠ none ∨ ∀ ds, H b ≠ some (.deferred ds)) → ∀ b, H b ≠ none → Z b ∨ W b ∨ (Hs b ≠ none ∧ b ∉ bs) → H' b = H b := fun Z W nd b _ hb => by
    rcases hs b with h | ⟨h1, h2, _⟩
    · exact h
    · rcases hb with hb | hb | hb
      · rcases nd b (.inl hb) with h | h
        · exact absurd h1 h
        · exact absurd h2 (h _)
      · rcases nd b (.inr hb) with h | h
        · exact absurd h1 h
        · exact absurd h2 (h _)
      · exact absurd h1 hb.1
  have live : ∀ b, H b ≠ none → H' b ≠ none := fun b hb => by
    rcases hs b with h | ⟨_, _, h⟩
    · rw [h]; exact hb
    · rw [h]; simp
  obtain ⟨Z, W, h | h⟩ := h
  · exact ⟨Z, W, .inl (C.stJ h (same Z W (C.ndJ h)) live)⟩
  · exact ⟨Z, W, .inr (C.stX h (same Z W (C.ndX h)) live)⟩
/-- What a function that is looped over gives, by what it has captured. -/
structure It where
  ps : List Pk
  kc : List PK
  xs : PTup kc → List (PkTs ps)
  pre : PTup kc → Prop
def capBox (b : Nat) : Value := .pointer (some ⟨b, 0, none⟩)
def ItOk (P : Program) (f : FuncId) (I : It) : Prop :=
  ∀ (Hs : Heap) (Z W : Nat → Prop) (bs : List Nat) (us : List Value) (c : PTup I.kc) (l : Nat) (C : Cons P l I.ps Hs bs), I.pre c → bs.Nodup → bs.length = us.length →
    (∀ (i b : Nat) (v : Value), bs[i]? = some b → us[i]? = some v → ∃ T, Hs b = some (.cells ⟨[v]⟩ T (0, 0))) → SimL ⟨Z, fun _ => 0, fun _ => .nilFunc⟩ Hs 0 (avsY 0 I.kc c) us → WfY I.kc c →
    (∀ b, Z b → Hs b ≠ none) → (∀ b ∈ bs, ¬ Z b ∧ ¬ W b) → (∀ b, W b → Hs b ≠ none ∧ ¬ Z b) → (∀ b, Laid.blocks b = true → Hs b ≠ none ∧ b ∉ bs ∧ ¬ W b) → Laid.ok (layH Hs) → C.J Z W (I.xs c) Hs →
    FnW P f ⟨.func (.yield l) #[] #[] :: bs.map capBox⟩ Hs fun _ H' => ∃ Z' W', C.J Z' W' [] H' ∨ C.X Z' W' H'
structure Tab where
  cts : List (Nat × Ct)
  its : List (Nat × It)
def itOf (f : Nat) : List (Nat × It) → Option It
  | [] => none
  | (k, c) :: l => match Nat.beq f k with
    | true => some c
    | false => itOf f l
def ItsOk (P : Program) : List (Nat × It) → Prop
  | [] => True
  | (f, c) :: l => ItOk P f c ∧ ItsOk P l
theorem ItsOk.get {P : Program} {f : Nat} {c : It} : ∀ {l : List (Nat × It)}, ItsOk P l → itOf f l = some c → ItOk P f c
  | [], _, h => by simp only [itOf] at h; cases h
  | (k, c') :: l, hl, h => by
    simp only [itOf] at h
    split at h
    · rename_i hb
      cases h
      rw [Nat.eq_of_beq_eq_true hb]; exact hl.1
    · exact ItsOk.get hl.2 h
def TabsOk (P : Program) (t : Tab) : Prop := TabOk P t.cts ∧ ItsOk P t.its

/-- What a function has captured: boxes of one cell each, that go over to it. -/
def capIds : List AV → Option (List Nat)
  | [] => some []
  | .ptr id 0 :: l => match capIds l with
    | some r => some (id :: r)
    | none => none
  | _ => none
def capCells (σ : List AObj) : List Nat → Option (List AV)
  | [] => some []
  | id :: ids => match σ[id]? with
    | some (.obj _ false [a]) => match capCells σ ids with
      | some r => some (a :: r)
      | none => none
    | _ => none
def itIn (kc : List PK) (st : St) (caps : List AV) : Option (PTup kc × List AObj) := match capIds caps with
  | some ids => match uniqB ids, capCells st.σ ids with
    | true, some as => match frzY st.σ kc as with
      | some σ1 => match readY σ1 kc as with
        | some (c, []) => some (c, goneAll ids σ1)
        | _ => none
      | none => none
    | _, _ => none
  | none => none

theorem capIds_vals {g : Gh} {H : Heap} {N : Nat} : ∀ {caps : List AV} {vs : List Value} {ids : List Nat}, capIds caps = some ids → SimL g H N caps vs → vs = ids.map (fun i => capBox (g.B i))
  | [], [], ids, h, _ => by simp only [capIds, Option.some.injEq] at h; subst h; rfl
  | [], _ :: _, _, _, h => by simp only [SimL] at h
  | _ :: _, [], _, _, h => by simp only [SimL] at h
  | a :: caps, v :: vs, ids, h, hs => by
    unfold capIds at h
    split at h
    · rename_i heq; cases heq
    · rename_i id l heq
      cases heq
      split at h
      · rename_i r hr
        cases h
        simp only [SimL] at hs
        obtain ⟨h1, h2⟩ := hs
        simp only [SimV] at h1
        rw [capIds_vals hr h2, h1.2]; rfl
      · cases h
    · cases h
theorem capCells_obj {σ : List AObj} : ∀ {ids : List Nat} {as : List AV}, capCells σ ids = some as → as.length = ids.length ∧ ∀ (i id : Nat) (a : AV), ids[i]? = some id → as[i]? = some a → ∃ T, σ[id]? = some (.obj T false [a])
  | [], as, h => by simp only [capCells, Option.some.injEq] at h; subst h; exact ⟨rfl, fun i id a h => by simp at h⟩
  | id :: ids, as, h => by
    simp only [capCells] at h
    split at h
    · rename_i T a hi
      split at h
      · rename_i r hr
        cases h
        obtain ⟨h1, h2⟩ := capCells_obj hr
        refine ⟨by simp [h1], fun i id' a' hi' ha' => ?_⟩
        cases i with
        | zero => simp at hi' ha'; subst hi' ha'; exact ⟨T, hi⟩
        | succ i => exact h2 i id' a' (by simpa using hi') (by simpa using ha')
      · cases h
    · cases h
/-- The cells' values. -/
theorem capCells_vals {g : Gh} {H : Heap} {N : Nat} {σ : List AObj} (ho : ∀ id o, σ[id]? = some o → SimO g H N id o) : ∀ {ids : List Nat} {as : List AV}, capCells σ ids = some as → ∃ us, us.length = ids.length ∧ SimL g H N as us ∧ ∀ (i id : Nat) (v : Value), ids[i]? = some id → us[i]? = some v → ∃ T, H (g.B id) = some (.cells ⟨[v]⟩ T (0, 0))
  | [], as, h => by simp only [capCells, Option.some.injEq] at h; subst h; exact ⟨[], rfl, by simp only [SimL], fun i id v h => by simp at h⟩
  | id :: ids, as, h => by
    simp only [capCells] at h
    split at h
    · rename_i T a hi
      split at h
      · rename_i r hr
        cases h
        obtain ⟨us, h1, h2, h3⟩ := capCells_vals ho hr
        obtain ⟨vs, h4, h5⟩ := ho id _ hi
        cases vs with
        | nil => simp only [SimL] at h5
        | cons u vs =>
          cases vs with
          | cons => simp only [SimL] at h5; exact h5.2.elim
          | nil =>
            simp only [SimL] at h5
            refine ⟨u :: us, by simp [h1], by simp only [SimL]; exact ⟨h5.1, h2⟩, fun i id' v hi' hv => ?_⟩
            cases i with
            | zero => simp at hi' hv; subst hi' hv; exact ⟨T, h4⟩
            | succ i => exact h3 i id' v (by simpa using hi') (by simpa using hv)
      · cases h
    · cases h

theorem frzO_objs {σ σ' : List AObj} {a : AV} (h : frzO σ a = some σ') {id : Nat} {T : TypeId} {r : Bool} {cs : List AV} (ho : σ[id]? = some (.obj T r cs)) : σ'[id]? = some (.obj T r cs) := by
  unfold frzO at h
  split at h
  · rename_i k
    split at h
    · rename_i T' ks xs hk
      cases h
      rw [List.getElem?_set]
      by_cases e : k = id
      · subst e; rw [hk] at ho; cases ho
      · rw [if_neg e]; exact ho
    · cases h; exact ho
    · cases h
  · cases h; exact ho
theorem frzY_objs : ∀ (ks : List PK) (as : List AV) (σ σ' : List AObj), frzY σ ks as = some σ' → ∀ {id : Nat} {T : TypeId} {r : Bool} {cs : List AV}, σ[id]? = some (.obj T r cs) → σ'[id]? = some (.obj T r cs)
  | [], [], σ, σ', h, _, _, _, _, ho => by simp only [frzY, Option.some.injEq] at h; subst h; exact ho
  | [], _ :: _, _, _, h, _, _, _, _, _ => by simp only [frzY] at h; cases h
  | k :: ks, [], _, _, h, _, _, _, _, _ => by cases k <;> simp only [frzY] at h <;> cases h
  | .lst _ :: ks, a :: as, σ, σ', h, _, _, _, _, ho => by
    simp only [frzY] at h
    split at h
    · rename_i σ1 hf; exact frzY_objs ks as σ1 σ' h (frzO_objs hf ho)
    · cases h
  | .int _ :: ks, a :: as, σ, σ', h, _, _, _, _, ho => by simp only [frzY] at h; exact frzY_objs ks as σ σ' h ho
  | .bool :: ks, a :: as, σ, σ', h, _, _, _, _, ho => by simp only [frzY] at h; exact frzY_objs ks as σ σ' h ho
  | .str :: ks, a :: as, σ, σ', h, _, _, _, _, ho => by simp only [frzY] at h; exact frzY_objs ks as σ σ' h ho
  | .row _ _ :: ks, a :: as, σ, σ', h, _, _, _, _, ho => by simp only [frzY] at h; exact frzY_objs ks as σ σ' h ho
  | .arr _ _ :: ks, a :: as, σ, σ', h, _, _, _, _, ho => by simp only [frzY] at h; exact frzY_objs ks as σ σ' h ho

theorem uniq_nodup' : ∀ {l : List Nat}, uniqB l = true → l.Nodup
  | [], _ => by simp
  | e :: l, h => by
    simp only [uniqB, Bool.and_eq_true, Bool.not_eq_true'] at h
    refine List.nodup_cons.2 ⟨fun hc => ?_, uniq_nodup' h.2⟩
    rw [memB_iff.2 hc] at h
    cases h.1

/-- The captured boxes go over. -/
theorem itIn_sound {E : En} {st : St} {ρ : Env} {H : Heap} {g : Gh} (s : Sim E st ρ H g) {kc : List PK} {caps : List AV} {vs : List Value} (hc : SimL g H st.σ.length caps vs) {c : PTup kc} {σ' : List AObj} (h : itIn kc st caps = some (c, σ')) :
    ∃ (g' : Gh) (bs : List Nat) (us : List Value), Sim E ⟨st.α, σ'⟩ ρ H g' ∧ Rel st H g ⟨st.α, σ'⟩ H g' ∧ vs = bs.map capBox ∧ bs.Nodup ∧ bs.length = us.length ∧ WfY kc c ∧
      (∀ (i b : Nat) (v : Value), bs[i]? = some b → us[i]? = some v → ∃ T, H b = some (.cells ⟨[v]⟩ T (0, 0))) ∧ SimL ⟨g'.Z, fun _ => 0, fun _ => .nilFunc⟩ H 0 (avsY 0 kc c) us ∧
      ∀ b ∈ bs, H b ≠ none ∧ ¬ g'.Z b ∧ (E.O0 b ∨ E.H0 b = none) ∧ Laid.blocks b = false ∧ ∀ (i : Nat) (o : AObj), σ'[i]? = some o → Has g' i o → g'.B i ≠ b := by
  unfold itIn at h
  split at h
  case h_2 => cases h
  rename_i ids hids
  split at h
  case h_2 => cases h
  rename_i as hun has
  split at h
  case h_2 => cases h
  rename_i σ1 hfr
  split at h
  case h_2 => cases h
  rename_i c' hread
  simp only [Option.some.injEq, Prod.mk.injEq] at h
  obtain ⟨rfl, rfl⟩ := h
  have hnd := uniq_nodup' hun
  obtain ⟨g1, s1, r1, l1, f1, _⟩ := frzY_sound kc _ st.σ σ1 g s hfr
  have hext := r1.ext
  have has1 : capCells σ1 ids = some as := by
    have : ∀ (ids : List Nat) (as : List AV), capCells st.σ ids = some as → capCells σ1 ids = some as := by
      intro ids
      induction ids with
      | nil => intro as h; simpa only [capCells] using h
      | cons i ids ih =>
        intro as h
        simp only [capCells] at h ⊢
        split at h
        · rename_i T a hi
          rw [frzY_objs _ _ _ _ hfr hi]
          split at h
          · rename_i r hr
            simp only [ih r hr]; exact h
          · cases h
        · cases h
    exact this ids as has
  obtain ⟨hal, hobj⟩ := capCells_obj has1
  obtain ⟨us, hul, hus, hval⟩ := capCells_vals (g := g1) (H := H) (N := σ1.length) (fun id o ho => s1.obj id o ho) has1
  obtain ⟨hw, _, _, hsim⟩ := readY_sim s1 hread hus f1
  have hin : ∀ id ∈ ids, ∃ T a, σ1[id]? = some (.obj T false [a]) := fun id hid => by
    obtain ⟨i, hi⟩ := List.getElem?_of_mem hid
    have hlt : i < as.length := by
      rw [hal]
      rcases Nat.lt_or_ge i ids.length with h | h
      · exact h
      · rw [List.getElem?_eq_none h] at hi; cases hi
    obtain ⟨T, hT⟩ := hobj i id _ hi (List.getElem?_eq_getElem hlt)
    exact ⟨T, _, hT⟩
  obtain ⟨s2, r2⟩ := Sim.dropAll (α := st.α) ids σ1 hnd (fun id hid => by obtain ⟨T, a, h⟩ := hin id hid; exact ⟨_, h, rfl⟩) s1
  have hB : ∀ id ∈ ids, g1.B id = g.B id := fun id hid => by
    obtain ⟨T, a, h⟩ := hin id hid
    have := get_lt h
    exact hext.b id (by show id < st.σ.length; omega)
  refine ⟨g1, ids.map g1.B, us, s2, r1.trans r2, ?_, ?_, by simp [hul], hw, ?_, ?_, ?_⟩
  · rw [capIds_vals hids hc, List.map_map]
    refine List.map_congr_left fun id hid => ?_
    show capBox (g.B id) = capBox (g1.B id)
    rw [hB id hid]
  · have hinj : ∀ i ∈ ids, ∀ j ∈ ids, i ≠ j → g1.B i ≠ g1.B j := fun i hi j hj hij => by
      obtain ⟨T, a, h⟩ := hin i hi
      obtain ⟨T', a', h'⟩ := hin j hj
      exact s1.dis i j _ _ hij h h' trivial trivial
    have : ∀ l : List Nat, l.Nodup → (∀ i ∈ l, i ∈ ids) → (l.map g1.B).Nodup := by
      intro l
      induction l with
      | nil => intro _ _; simp
      | cons i l ih =>
        intro hn hm
        obtain ⟨h1, h2⟩ := List.nodup_cons.1 hn
        simp only [List.map_cons, List.nodup_cons, List.mem_map, not_exists, not_and]
        exact ⟨fun j hj e => hinj j (hm j (List.mem_cons_of_mem _ hj)) i (hm i List.mem_cons_self) (fun e' => h1 (e' ▸ hj)) e, ih h2 fun j hj => hm j (List.mem_cons_of_mem _ hj)⟩
    exact this ids hnd fun _ h => h
  · intro i b v hi hv
    rw [List.getElem?_map, Option.map_eq_some_iff] at hi
    obtain ⟨id, h1, rfl⟩ := hi
    exact hval i id v h1 hv
  · exact hsim ⟨g1.Z, fun _ => 0, fun _ => .nilFunc⟩ 0 0 ⟨fun j id h => by simp at h, fun j h => by simp at h⟩ (by simp) rfl
  · intro b hb
    obtain ⟨id, hid, rfl⟩ := List.mem_map.1 hb
    obtain ⟨T, a, h⟩ := hin id hid
    refine ⟨?_, s1.nz id _ h trivial, s1.own id _ h trivial, ?_, fun i o hi hh e => ?_⟩
    · obtain ⟨c, T', hl⟩ := s1.live h trivial
      rw [hl]; simp
    · cases hbl : Laid.blocks (g1.B id) with
      | false => rfl
      | true =>
        rcases s1.own id _ h trivial with h1 | h1
        · exact absurd h1 (s1.lay.own _ hbl)
        · exact absurd h1 (s1.lay.live _ hbl)
    · rcases goneAll_get ids σ1 i o hi with rfl | ⟨h1, h2⟩
      · exact hh
      · exact s1.dis i id o _ (fun e' => h1 (e' ▸ hid)) h2 h hh trivial e

end Go.Sh
