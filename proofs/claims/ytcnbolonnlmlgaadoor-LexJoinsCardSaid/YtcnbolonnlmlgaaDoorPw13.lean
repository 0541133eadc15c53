/-
  What is handed in, as plain data; from a law over plain data to its row.
-/
import Derived.Test.YtcnbolonnlmlgaaDoorPw12
import Derived.Test.YtcnbolonnlmlgaaDoorLift
import Derived.OpenShut
set_option linter.unusedSectionVars false
set_option linter.unusedSimpArgs false
set_option linter.unusedVariables false
namespace Go.Sh
variable [Laid]
open Go.ChangeShapes Go.WideShapes Go.ChangeAt Go.RowKit

def alK : Kd → Nat
  | .int .i8 => 1 | .int .u8 => 1 | .int .i16 => 2 | .int .u16 => 2 | .int .i32 => 4 | .int .u32 => 4 | .int .i64 => 8 | .int .u64 => 8
  | .bool => 1 | .str => 8 | .lst _ => 8
def szK : Kd → Nat
  | .int .i8 => 1 | .int .u8 => 1 | .int .i16 => 2 | .int .u16 => 2 | .int .i32 => 4 | .int .u32 => 4 | .int .i64 => 8 | .int .u64 => 8
  | .bool => 1 | .str => 16 | .lst _ => 24
/-- How many bytes the cells take at least. -/
def layK : List Kd → Nat → Nat → Nat
  | [], off, al => (off + al - 1) / al * al
  | k :: ks, off, al => layK ks ((off + alK k - 1) / alK k * alK k + szK k) (max al (alK k))
def bytesK (ks : List Kd) : Nat := layK ks 0 1
mutual
/-- What is handed in takes at most so many bytes in one piece. -/
def SzE : (k : Kd) → El k → Prop
  | .int _, _ => True
  | .bool, _ => True
  | .str, s => s.length ≤ 140737488351232
  | .lst ks, xs => (asL xs).length * bytesK ks ≤ 140737488351232 ∧ ∀ x, x ∈ asL xs → SzT ks x
def SzT : (ks : List Kd) → Tp ks → Prop
  | [], _ => True
  | k :: ks, x => SzE k (hdT ks x) ∧ SzT ks (tlT ks x)
end
def SzPk : (p : Pk) → PkT p → Prop
  | .int _, _ => True
  | .bool, _ => True
  | .str, s => s.length ≤ 140737488351232
  | .lst ks, xs => SzE (.lst ks) xs
  | .agg ks, x => SzT ks x
  | .err, _ => True
  | .own _ ks, xs => SzE (.lst ks) xs
  | .fn _, _ => True
  | .nil, _ => True
def SzPs : (ps : List Pk) → PkTs ps → Prop
  | [], _ => True
  | p :: ps, x => SzPk p x.1 ∧ SzPs ps x.2

/-- The kinds of a type's cells, where its layout is plain. -/
def fieldsK (P : Program) (k : TypeId → Option (List Kd)) : List Field → Nat → Option (List Kd)
  | [], _ => some []
  | f :: fs, off => match k f.type with
    | some ks => match Nat.beq f.offset off && Nat.beq (P.cellsOf f.type) ks.length, fieldsK P k fs (off + ks.length) with
      | true, some r => some (ks ++ r)
      | _, _ => none
    | none => none
def kdL (P : Program) : Nat → TypeId → Option (List Kd)
  | 0, _ => none
  | d + 1, t => match P.underlying t with
    | some (.int k) => some [.int k]
    | some .bool => some [.bool]
    | some .string => some [.str]
    | some (.slice e) => match kdL P d e with
      | some (k :: ks) => match Nat.beq (P.cellsOf e) (ks.length + 1) && Nat.ble (bytesK (k :: ks)) (P.bytesOf e) with
        | true => some [.lst (k :: ks)]
        | false => none
      | _ => none
    | some (.struct fs) => match fieldsK P (kdL P d) fs.toList 0 with
      | some ks => match Nat.beq (P.cellsOf t) ks.length with
        | true => some ks
        | false => none
      | none => none
    | some (.array n e) => match kdL P d e with
      | some ks => match Nat.beq (P.cellsOf e) ks.length && Nat.beq (P.cellsOf t) (n * ks.length) with
        | true => some (List.replicate n ks).flatten
        | false => none
      | none => none
    | _ => none

theorem CellsOk.same {Z : Nat → Prop} {H : Heap} : ∀ (ks : List Kd) (x : Tp ks) (f g : Nat → Option Value), (∀ j, j < ks.length → f j = g j) → CellsOk Z H ks x f → CellsOk Z H ks x g
  | [], _, _, _, _, _ => by simp only [CellsOk]
  | k :: ks, x, f, g, h, hc => by
    simp only [CellsOk] at hc ⊢
    obtain ⟨⟨v, hv, ho⟩, hr⟩ := hc
    exact ⟨⟨v, by rw [← h 0 (by simp)]; exact hv, ho⟩, CellsOk.same ks _ _ _ (fun j hj => h (j + 1) (by simp; omega)) hr⟩
theorem one_ok {Z : Nat → Prop} {H : Heap} {k : Kd} {x : El k} {v : Value} (h : CellOk Z H k x v) (hz : SzE k x) : ∃ y : Tp [k], CellsOk Z H [k] y (fun j => [v][j]?) ∧ SzT [k] y :=
  ⟨(mkT [] x () : Tp [k]), by simp only [CellsOk]; exact ⟨⟨v, rfl, h⟩, trivial⟩, by simp only [SzT]; exact ⟨hz, trivial⟩⟩
theorem CellsOk.cat {Z : Nat → Prop} {H : Heap} : ∀ (ks ks' : List Kd) (x : Tp ks) (x' : Tp ks') (f : Nat → Option Value), CellsOk Z H ks x f → CellsOk Z H ks' x' (fun j => f (ks.length + j)) → SzT ks x → SzT ks' x' → ∃ y : Tp (ks ++ ks'), CellsOk Z H (ks ++ ks') y f ∧ SzT (ks ++ ks') y
  | [], ks', _, x', f, _, h, _, z => ⟨x', by simpa using h, z⟩
  | k :: ks, ks', x, x', f, h1, h2, z1, z2 => by
    simp only [SzT] at z1
    simp only [CellsOk] at h1
    obtain ⟨⟨v, hv, ho⟩, hr⟩ := h1
    obtain ⟨y, hy, hz⟩ := CellsOk.cat ks ks' (tlT ks x) x' (fun j => f (j + 1)) hr (CellsOk.same _ _ _ _ (fun j _ => by simp only [List.length_cons]; congr 1; omega) h2) z1.2 z2
    refine ⟨(mkT (ks ++ ks') (hdT ks x) y : Tp (k :: (ks ++ ks'))), ?_, ?_⟩
    rotate_left
    · show SzT (k :: (ks ++ ks')) _
      simp only [SzT]
      rw [hd_mk, tl_mk]
      exact ⟨z1.1, hz⟩
    show CellsOk Z H (k :: (ks ++ ks')) _ f
    simp only [CellsOk]
    rw [hd_mk, tl_mk]
    exact ⟨⟨v, hv, ho⟩, hy⟩
theorem list_of {A : Type} {p : Nat → A → Prop} : ∀ {n : Nat}, (∀ i, i < n → ∃ x, p i x) → ∃ xs : List A, xs.length = n ∧ ∀ i x, xs[i]? = some x → p i x
  | 0, _ => ⟨[], rfl, fun i x h => by simp at h⟩
  | n + 1, h => by
    obtain ⟨xs, hl, hx⟩ := list_of (n := n) fun i hi => h i (by omega)
    obtain ⟨y, hy⟩ := h n (by omega)
    refine ⟨xs ++ [y], by simp [hl], fun i x hi => ?_⟩
    rcases Nat.lt_or_ge i n with hlt | hge
    · rw [List.getElem?_append_left (by omega)] at hi
      exact hx i x hi
    · rw [List.getElem?_append_right (by omega)] at hi
      have : i = n := by
        have := (List.getElem?_eq_some_iff.1 hi).1
        simp at this; omega
      subst this
      simp [hl] at hi
      subst hi
      exact hy

theorem cells?_get {W : World} {base : Nat} {a : Addr} {n : Nat} {l : List Value} (h : W.cells? base a n = some l) : l.length = n ∧ ∀ j, j < n → W.cell? (a.add j) = l[j]? := by
  unfold World.cells? at h
  split at h
  · refine ⟨by simpa using mapM_some_length h, fun j hj => ?_⟩
    simpa using mapM_some_get h j j (by simp [hj])
  · cases h

abbrev alive (H : Heap) : Nat → Prop := fun b => H b ≠ none

theorem wf_inR {k : IntKind} {n : Int} (h : (Lit.int k n).wf = true) : InR k n := by
  cases k <;> simp [Lit.wf, IntKind.min, IntKind.max, IntKind.signed, IntKind.bits] at h <;> simp only [InR, loI, hiI] <;> omega

theorem weightsAll_mem {D : Type} {P : Program} {e : TypeId} {d : DataW D} {w : Nat} : ∀ {l : List (DataW D)}, d ∈ l → w ∈ d.weights P e → w ∈ DataW.weightsAll P e l
  | x :: l, h, hw => by
    simp only [DataW.weightsAll]
    rcases List.mem_cons.1 h with rfl | h
    · exact List.mem_append_left _ hw
    · exact List.mem_append_right _ (weightsAll_mem h hw)
theorem weightsEach_mem {D : Type} {P : Program} {w : Nat} : ∀ {ts : List TypeId} {ds : List (DataW D)} {i : Nat} {t : TypeId} {d : DataW D}, ts[i]? = some t → ds[i]? = some d → w ∈ d.weights P t → w ∈ DataW.weightsEach P ts ds
  | t0 :: ts, d0 :: ds, 0, t, d, h1, h2, hw => by
    simp at h1 h2
    subst h1 h2
    simp only [DataW.weightsEach]
    exact List.mem_append_left _ hw
  | t0 :: ts, d0 :: ds, i + 1, t, d, h1, h2, hw => by
    simp only [DataW.weightsEach]
    exact List.mem_append_right _ (weightsEach_mem (i := i) (by simpa using h1) (by simpa using h2) hw)
  | [], _, _, _, _, h, _, _ => by simp at h
  | _ :: _, [], _, _, _, _, h, _ => by simp at h

theorem open_kd {D : Type} {enc : TypeId × Value → D} {P : Program} {W : World} {sp : Nat → Bool} {held : Bool} : ∀ (d : Nat) (t : TypeId) (ks : List Kd), kdL P d t = some ks → ∀ (fuel : Nat) (cs : List Value) (x : DataW D × List MemPlace),
    DataW.trod enc P W 0 sp held fuel t cs = some x → (∀ n ∈ x.1.weights P t, n ≤ 140737488351232) → cs.length = ks.length ∧ ∃ y : Tp ks, CellsOk (alive (hp W)) (hp W) ks y (fun j => cs[j]?) ∧ SzT ks y
  | 0, t, ks, h, _, _, _, _, _ => by simp only [kdL] at h; cases h
  | d + 1, t, ks, h, fuel, cs, x, hx, hwt => by
    simp only [kdL] at h
    split at h
    · rename_i k hu
      cases h
      obtain ⟨n, rfl, _, hw⟩ := DataW.trod_int hu hx
      have hr := wf_inR hw
      refine ⟨rfl, one_ok (k := .int k) (x := (ofI k n : El (.int k))) ?_ (by simp only [SzE])⟩
      simp only [CellOk]
      exact ⟨by rw [toI_ofI hr], WfI.ofI hr⟩
    · rename_i hu
      cases h
      obtain ⟨b, rfl, _⟩ := DataW.trod_bool hu hx
      refine ⟨rfl, one_ok (k := .bool) (x := (b : El .bool)) ?_ (by simp only [SzE])⟩
      simp only [CellOk]
    · rename_i hu
      cases h
      obtain ⟨s, rfl, hxx, hm⟩ := DataW.trod_string hu hx
      have hsz : s.data.toList.length ≤ 140737488351232 := hwt _ (by rw [hxx]; simp [DataW.weights])
      refine ⟨rfl, one_ok (k := .str) (x := (s.data.toList : El .str)) ?_ (by simp only [SzE]; exact hsz)⟩
      simp only [CellOk]
      exact ⟨rfl, by simpa [lenMax, maxLen] using hm⟩
    · rename_i e hu
      split at h
      case h_2 => cases h
      rename_i k ks' hke
      split at h
      case h_2 => cases h
      rename_i hsz
      cases h
      simp only [Bool.and_eq_true] at hsz
      have hby := Nat.le_of_ble_eq_true hsz.2
      have hsz := Nat.eq_of_beq_eq_true hsz.1
      rcases DataW.trod_slice hu hx with ⟨rfl, _⟩ | ⟨a, len, cap, elems, rest, n, _, rfl, hxx, _, hlc, hcm, hlen, hel, _⟩
      · refine ⟨rfl, one_ok (k := .lst (k :: ks')) (x := ([] : El (.lst (k :: ks')))) ?_ (by simp only [SzE]; exact ⟨by simp, fun x hx => by simp at hx⟩)⟩
        simp only [CellOk]
        exact ⟨none, 0, 0, rfl, rfl, Nat.le_refl _, Nat.zero_le _, fun h => by omega⟩
      · rw [hxx] at hwt
        simp only [DataW.weights, hu, List.length_map] at hwt
        have hlw : len * bytesK (k :: ks') ≤ 140737488351232 := by
          have h1 := hwt _ List.mem_cons_self
          refine Nat.le_trans (Nat.mul_le_mul (by omega) hby) h1
        have each : ∀ i, i < len → ∃ l : List Value, l.length = ks'.length + 1 ∧ (∀ j, j < ks'.length + 1 → W.cell? ((a.add (i * (ks'.length + 1))).add j) = l[j]?) ∧ ∃ y : Tp (k :: ks'), CellsOk (alive (hp W)) (hp W) (k :: ks') y (fun j => l[j]?) ∧ SzT (k :: ks') y := fun i hi => by
          have he := hel i hi
          rw [List.getElem?_eq_getElem (by omega), hsz, Option.bind_eq_some_iff] at he
          obtain ⟨l, hl, hy⟩ := he
          obtain ⟨h1, h2⟩ := cells?_get hl
          exact ⟨l, h1, h2, (open_kd d e (k :: ks') hke _ _ _ hy fun w hw => hwt w (List.mem_cons_of_mem _ (List.mem_append_left _ (weightsAll_mem (List.mem_map.2 ⟨_, List.getElem_mem _, rfl⟩) hw)))).2⟩
        by_cases h0 : 0 < len
        · obtain ⟨l0, hl0, hc0, _⟩ := each 0 h0
          have hc1 := hc0 0 (by omega)
          rw [List.getElem?_eq_getElem (by omega), Nat.zero_mul] at hc1
          have ha0 : ∀ a : Addr, (a.add 0).add 0 = a := fun a => by simp [Addr.add]
          rw [ha0] at hc1
          obtain ⟨hsp, c, T, fr, hb, _⟩ := cell_spot (H := hp W) (by rw [hp_cell]; exact hc1)
          obtain ⟨b, o, sp'⟩ := a
          simp only at hsp hb
          subst hsp
          obtain ⟨xs, hxl, hxs⟩ := list_of (n := len) (p := fun i (y : Tp (k :: ks')) => CellsOk (alive (hp W)) (hp W) (k :: ks') y (fun j => c[o + i * (k :: ks').length + j]?) ∧ SzT (k :: ks') y) fun i hi => by
            obtain ⟨l, hl, hc, y, hy, hz⟩ := each i hi
            refine ⟨y, CellsOk.same _ _ _ _ (fun j hj => ?_) hy, hz⟩
            have hj' : j < ks'.length + 1 := by simpa using hj
            have h1 := hc j hj'
            rw [List.getElem?_eq_getElem (by omega)] at h1
            have hadd : ((⟨b, o, none⟩ : Addr).add (i * (ks'.length + 1))).add j = ⟨b, o + i * (ks'.length + 1) + j, none⟩ := by
              rw [add_of_spot (a := ⟨b, o, none⟩) rfl (i * (ks'.length + 1)), add_of_spot rfl]
            rw [hadd, ← hp_cell] at h1
            obtain ⟨_, c', T', fr', hb', hj''⟩ := cell_spot h1
            simp only at hb' hj''
            rw [hb] at hb'
            cases hb'
            rw [List.getElem?_eq_getElem (by omega)]
            simp only [List.length_cons]
            exact hj''.symm
          refine ⟨rfl, one_ok (k := .lst (k :: ks')) (x := (xs : El (.lst (k :: ks')))) ?_ (by simp only [SzE]; exact ⟨by rw [show (asL (ks := k :: ks') xs).length = len from hxl]; exact hlw, fun x hx => by obtain ⟨i, hi⟩ := List.getElem?_of_mem hx; exact (hxs i x hi).2⟩)⟩
          simp only [CellOk]
          exact ⟨_, len, cap, rfl, hxl, hlc, by simpa [lenMax, maxLen] using hcm, fun _ => ⟨b, o, rfl, by rw [alive, hb]; simp, c, T, fr, hb, fun i x hi => (hxs i x hi).1⟩⟩
        · have h0 : len = 0 := by omega
          subst h0
          refine ⟨rfl, one_ok (k := .lst (k :: ks')) (x := ([] : El (.lst (k :: ks')))) ?_ (by simp only [SzE]; exact ⟨by simp, fun x hx => by simp at hx⟩)⟩
          simp only [CellOk]
          exact ⟨_, 0, cap, rfl, rfl, hlc, by simpa [lenMax, maxLen] using hcm, fun h => by omega⟩
    · rename_i fs hu
      split at h
      case h_2 => cases h
      rename_i ks' hfs
      split at h
      case h_2 => cases h
      rename_i hsz
      cases h
      have hsz := Nat.eq_of_beq_eq_true hsz
      obtain ⟨xs, n, _, hxx, hcl, hxl, hf⟩ := DataW.trod_struct hu hx
      rw [hxx] at hwt
      simp only [DataW.weights, hu] at hwt
      have hall : ∀ f ∈ fs.toList, ∃ x, DataW.trod enc P W 0 sp held n f.type ((cs.drop f.offset).take (P.cellsOf f.type)) = some x ∧ ∀ w ∈ x.1.weights P f.type, w ≤ 140737488351232 := fun f hf' => by
        obtain ⟨i, hi, rfl⟩ := List.getElem_of_mem hf'
        have := hf i fs[i] (by simp at hi; simp [hi])
        simp at hi
        rw [List.getElem?_eq_getElem (by omega)] at this
        exact ⟨_, by simpa using this, fun w hw => hwt w (weightsEach_mem (i := i) (t := fs[i].type) (d := (xs[i]'(by omega)).1) (by simp [hi]) (by rw [List.getElem?_map, List.getElem?_eq_getElem (by omega)]; rfl) (by simpa using hw))⟩
      have key : ∀ (l : List Field) (off : Nat) (ks : List Kd), (∀ f ∈ l, f ∈ fs.toList) → fieldsK P (kdL P d) l off = some ks → ∃ y : Tp ks, CellsOk (alive (hp W)) (hp W) ks y (fun j => cs[off + j]?) ∧ SzT ks y := by
        intro l
        induction l with
        | nil => intro off ks _ h; simp only [fieldsK] at h; cases h; exact ⟨(), by simp only [CellsOk], by simp only [SzT]⟩
        | cons f l ih =>
          intro off ks hm h
          simp only [fieldsK] at h
          split at h
          case h_2 => cases h
          rename_i k1 hk1
          split at h
          case h_2 => cases h
          rename_i r hb hr
          cases h
          simp only [Bool.and_eq_true] at hb
          have hb1 := Nat.eq_of_beq_eq_true hb.1
          have hb2 := Nat.eq_of_beq_eq_true hb.2
          obtain ⟨x1, hx1, hw1⟩ := hall f (hm f (by simp))
          obtain ⟨_, y1, hy1, hz1⟩ := open_kd d f.type k1 hk1 _ _ _ hx1 hw1
          obtain ⟨y2, hy2, hz2⟩ := ih (off + k1.length) r (fun f hf => hm f (by simp [hf])) hr
          refine CellsOk.cat k1 r y1 y2 _ (CellsOk.same _ _ _ _ (fun j hj => ?_) hy1) (CellsOk.same _ _ _ _ (fun j _ => by rw [Nat.add_assoc]) hy2) hz1 hz2
          rw [List.getElem?_take_of_lt (by omega), List.getElem?_drop, hb1]
      refine ⟨by omega, ?_⟩
      obtain ⟨y, hy, hz⟩ := key fs.toList 0 ks (fun f hf => hf) hfs
      exact ⟨y, by simpa using hy, hz⟩
    · rename_i n e hu
      split at h
      case h_2 => cases h
      rename_i ks' hke
      split at h
      case h_2 => cases h
      rename_i hsz
      cases h
      simp only [Bool.and_eq_true] at hsz
      have hs1 := Nat.eq_of_beq_eq_true hsz.1
      have hs2 := Nat.eq_of_beq_eq_true hsz.2
      obtain ⟨xs, m, _, hxx, hcl, hxl, hf⟩ := DataW.trod_array hu hx
      rw [hxx] at hwt
      simp only [DataW.weights, hu] at hwt
      have key : ∀ (k i : Nat), i + k = n → ∃ y : Tp (List.replicate k ks').flatten, CellsOk (alive (hp W)) (hp W) (List.replicate k ks').flatten y (fun j => cs[i * ks'.length + j]?) ∧ SzT (List.replicate k ks').flatten y := by
        intro k
        induction k with
        | zero => intro i _; exact ⟨(), by simp only [List.replicate_zero, List.flatten_nil, CellsOk], by simp only [List.replicate_zero, List.flatten_nil, SzT]⟩
        | succ k ih =>
          intro i hik
          have h1 := hf i (by omega)
          rw [List.getElem?_eq_getElem (by omega), hs1] at h1
          obtain ⟨_, y1, hy1, hz1⟩ := open_kd d e ks' hke _ _ _ h1 fun w hw => hwt w (weightsAll_mem (List.mem_map.2 ⟨_, List.getElem_mem _, rfl⟩) hw)
          obtain ⟨y2, hy2, hz2⟩ := ih (i + 1) (by omega)
          have := CellsOk.cat ks' (List.replicate k ks').flatten y1 y2 (fun j => cs[i * ks'.length + j]?) (CellsOk.same _ _ _ _ (fun j hj => by
            rw [List.getElem?_take_of_lt (by omega), List.getElem?_drop]) hy1) (CellsOk.same _ _ _ _ (fun j _ => by rw [Nat.add_mul, Nat.one_mul, Nat.add_assoc]) hy2) hz1 hz2
          simpa [List.replicate_succ] using this
      refine ⟨by rw [hcl, hs2]; simp, ?_⟩
      obtain ⟨y, hy, hz⟩ := key n 0 (by omega)
      exact ⟨y, by simpa using hy, hz⟩
    · cases h

/-- Parameters as kinds. -/
def pkL (P : Program) (t : TypeId) : Option Pk := match P.underlying t with
  | some (.int k) => some (.int k)
  | some .bool => some .bool
  | some .string => some .str
  | some (.slice _) => match kdL P 8 t with
    | some [.lst ks] => some (.lst ks)
    | _ => none
  | some (.struct _) => match kdL P 8 t with
    | some ks => some (.agg ks)
    | none => none
  | some (.array _ _) => match kdL P 8 t with
    | some ks => some (.agg ks)
    | none => none
  | _ => none
def pksL (P : Program) : List TypeId → Option (List Pk)
  | [] => some []
  | t :: ts => match pkL P t, pksL P ts with
    | some p, some ps => some (p :: ps)
    | _, _ => none

theorem okWide_plain {P : Program} {W : World} {base : Nat} {t : TypeId} {v : Value} (ht : (∃ k, P.underlying t = some (.int k)) ∨ P.underlying t = some .bool ∨ P.underlying t = some .string ∨ ∃ e, P.underlying t = some (.slice e))
    (h : Value.okWide P W .any base t v) : v.cells.toList = [v] := by
  rcases ht with ⟨k, ht⟩ | ht | ht | ⟨e, ht⟩ <;> simp only [Value.okWide, ht, Cell.okWide, Cell.ok] at h <;> cases v <;> first | rfl | exact h.elim | simp_all [Value.cells]

theorem open_pk {D : Type} {enc : TypeId × Value → D} {P : Program} {W : World} {sp : Nat → Bool} {held : Bool} {base : Nat} {t : TypeId} {p : Pk} (h : pkL P t = some p) {v : Value} {d : DataW D} {ps : List MemPlace} (hval : Value.okWide P W .any base t v)
    (hx : DataW.Trod enc P W 0 sp held t v d ps) (hwt : ∀ n ∈ d.weights P t, n ≤ 140737488351232) {g : Gh} (hg : g.Z = alive (hp W)) (N : Nat) : isOwn p = false ∧ ∃ x : PkT p, WfPk p x ∧ SzPk p x ∧ SimV g (hp W) N (pkA N p x) v := by
  obtain ⟨fuel, hx⟩ := hx
  unfold pkL at h
  split at h
  · rename_i k hu
    cases h
    rw [okWide_plain (.inl ⟨_, hu⟩) hval] at hx
    obtain ⟨n, h1, _, hw⟩ := DataW.trod_int hu hx
    cases h1
    exact ⟨rfl, n, wf_inR hw, trivial, by simp only [pkA, SimV]; exact ⟨by first | rfl | trivial, wf_inR hw⟩⟩
  · rename_i hu
    cases h
    rw [okWide_plain (.inr (.inl hu)) hval] at hx
    obtain ⟨b, h1, _⟩ := DataW.trod_bool hu hx
    cases h1
    exact ⟨rfl, b, trivial, trivial, by simp only [pkA, SimV]⟩
  · rename_i hu
    cases h
    rw [okWide_plain (.inr (.inr (.inl hu))) hval] at hx
    obtain ⟨s, h1, hxx, hm⟩ := DataW.trod_string hu hx
    cases h1
    have hsz : s.data.toList.length ≤ 140737488351232 := hwt _ (by have := (Prod.mk.inj hxx).1; subst this; simp [DataW.weights])
    have hm' : s.data.toList.length ≤ lenMax := by simpa [lenMax, maxLen] using hm
    exact ⟨rfl, s.data.toList, hm', hsz, by simp only [pkA, SimV]; exact ⟨by first | rfl | trivial, hm'⟩⟩
  · rename_i e hu
    split at h
    case h_2 => cases h
    rename_i ks hk
    cases h
    rw [okWide_plain (.inr (.inr (.inr ⟨e, hu⟩))) hval] at hx
    obtain ⟨_, y, hy, hz⟩ := open_kd 8 t _ hk _ _ _ hx hwt
    simp only [SzT] at hz
    have hw := CellsOk.wf _ _ _ hy
    simp only [CellsOk] at hy
    obtain ⟨⟨v', hv', hc⟩, _⟩ := hy
    simp at hv'
    subst hv'
    simp only [WfT] at hw
    exact ⟨rfl, hdT [] y, hw.1, hz.1, by simp only [pkA, SimV]; rw [hg]; exact hc⟩
  all_goals
    first
    | (rename_i hu
       split at h
       case h_2 => cases h
       rename_i ks hk
       cases h
       simp only [Value.okWide, hu] at hval
       obtain ⟨cs, rfl, hs, _⟩ := hval
       obtain ⟨hl, y, hy, hz⟩ := open_kd 8 t _ hk _ _ _ hx hwt
       have hw := CellsOk.wf _ _ _ hy
       rw [← hg] at hy
       obtain ⟨vs, hvl, hsim, hv⟩ := lvT_sim (N := N) hy
       refine ⟨rfl, y, hw, hz, ?_⟩
       simp only [pkA, SimV]
       refine ⟨vs, ?_, hsim⟩
       have : cs.toList = vs := by
         apply List.ext_getElem?
         intro j
         by_cases hj : j < vs.length
         · exact hv j hj
         · rw [List.getElem?_eq_none (by simp only [Value.cells] at hl; omega), List.getElem?_eq_none (by omega)]
       rw [← this])
    | cases h

theorem open_pks {D : Type} {enc : TypeId × Value → D} {P : Program} {W : World} {sp : Nat → Bool} {held : Bool} {base : Nat} {g : Gh} (hg : g.Z = alive (hp W)) (N : Nat) : ∀ {ts : List TypeId} {ps : List Pk} (_ : pksL P ts = some ps) {vs : List Value} {ds : List (DataW D)} {pl : List MemPlace},
    (∀ (j : Nat) t v, ts[j]? = some t → vs[j]? = some v → Value.okWide P W .any base t v) → DataW.TrodAll enc P W 0 sp held ts vs ds pl → (∀ n ∈ DataW.weightsEach P ts ds, n ≤ 140737488351232) →
    vs.length = ps.length ∧ ∃ x : PkTs ps, WfPs ps x ∧ SzPs ps x ∧ SimL g (hp W) N (pksA N ps x) vs ∧ pksR ps x = []
  | [], ps, h, vs, ds, pl, _, hx, _ => by
    simp only [pksL] at h
    cases h
    cases vs with
    | nil => exact ⟨rfl, (), trivial, trivial, by simp only [pksA, SimL], rfl⟩
    | cons v vs => simp only [DataW.TrodAll] at hx
  | t :: ts, ps, h, vs, ds, pl, hval, hx, hwt => by
    simp only [pksL] at h
    split at h
    case h_2 => cases h
    rename_i p ps' hp' hps'
    cases h
    obtain ⟨v, vs', d, ds', p1, q, rfl, rfl, rfl, h1, h2⟩ := trodAll_cons hx
    simp only [DataW.weightsEach] at hwt
    obtain ⟨ho, x, hw, hz, hs⟩ := open_pk hp' (hval 0 t v rfl rfl) h1 (fun n hn => hwt n (List.mem_append_left _ hn)) hg N
    obtain ⟨hl, x', hw', hz', hs', hr⟩ := open_pks hg N hps' (fun j t v h1 h2 => hval (j + 1) t v (by simpa using h1) (by simpa using h2)) h2 (fun n hn => hwt n (List.mem_append_right _ hn))
    refine ⟨by simp [hl], (x, x'), ⟨hw, hw'⟩, ⟨hz, hz'⟩, ?_, ?_⟩
    · simp only [pksA, SimL]
      rw [ho]
      exact ⟨hs, hs'⟩
    · cases p <;> simp only [isOwn] at ho <;> first | (cases ho; done) | exact hr

/-- A law that returns true whatever is handed in, over plain data: so it does in the model. -/
theorem law_of {D : Type} {enc : TypeId × Value → D} {P : Program} {f : FuncId} {ps : List Pk} {q : PkTs ps → (PkTs [.bool] → Prop) → Prop} (hq : FnQ P f ps [.bool] q) {ts : List TypeId} (hps : pksL P ts = some ps)
    (hall : ∀ x, WfPs ps x → SzPs ps x → q x fun r => r.1 = true)
    {W : World} {sp : Nat → Bool} {held : Bool} {base : Nat} {vs : List Value} {ds : List (DataW D)} {pl : List MemPlace} (hval : ∀ (j : Nat) t v, ts[j]? = some t → vs[j]? = some v → Value.okWide P W .any base t v) (hx : DataW.TrodAll enc P W 0 sp held ts vs ds pl) (hwt : (DataW.weightsEach P ts ds).all (· ≤ reachBytes) = true) (hlv : ∀ b, Laid.blocks b = true → hp W b ≠ none) (hlo : Laid.ok (layH (hp W))) :
    FnW P f ⟨vs⟩ (hp W) fun v H' => v = .bool true ∧ Keep Nil (hp W) H' := by
  let g : Gh := ⟨alive (hp W), fun _ => 0, fun _ => .bool false⟩
  obtain ⟨hl, x, hw, hz, hs, hr⟩ := open_pks (g := g) rfl 0 hps hval hx fun n hn => of_decide_eq_true (List.all_eq_true.1 hwt n hn)
  have s : Sim ⟨hp W, Owned g (pksR ps x), g.Z⟩ (parS ps x) (env0 vs) (hp W) g := by
    have hn : (parS ps x).σ = [] := hr
    have none : ∀ {i : Nat} {o : AObj}, (parS ps x).σ[i]? = some o → False := fun {i o} h => by rw [hn] at h; simp at h
    exact
      { tmp := fun t => by rw [hn]; simpa [parS, env0] using simL_getD hs t
        obj := fun id o h => (none h).elim
        nz := fun id o h => (none h).elim
        dis := fun i j oi oj _ h => (none h).elim
        own := fun i o h => (none h).elim
        keep := Keep.refl _ _
        zsub := fun _ h => h
        znew := fun _ h => .inl h
        zlive := fun _ h => h
        lay := ⟨fun b hb ⟨i, o, h, _⟩ => none h, hlv, hlo⟩
        zc := fun _ h => .inl h }
  refine (hq x _ (hall x hw hz) (hp W) g vs hl s).mono fun v H' hk => ?_
  obtain ⟨a, st', ρ', g', s', hav, hout⟩ := hk
  refine ⟨?_, ⟨fun b _ hb => s'.keep.same b (fun ho => by
    obtain ⟨i, o, hi, _⟩ := ho
    rw [hr] at hi; simp at hi) hb, fun b hb => s'.keep.live b hb⟩⟩
  unfold outP at hout
  split at hout
  case h_2 => exact hout.elim
  rename_i as hol
  split at hout
  case h_2 => exact hout.elim
  rename_i σ' hfr'
  split at hout
  case h_2 => exact hout.elim
  rename_i y src' htk'
  split at hout
  case h_2 => exact hout.elim
  have he : a = .bool y.1 := by
    unfold outL at hol
    simp only [Option.some.injEq] at hol
    subst hol
    unfold takePs takeP at htk'
    cases a <;> simp only [] at htk' <;> first | (cases htk'; done) | skip
    unfold takePs at htk'
    cases htk'
    rfl
  subst he
  simp only [SimV] at hav
  rw [hav, hout]

/-- The row, from the condition on the call; what is handed in is weighed. -/
theorem lifted2 {C : Checked} {os : Os} {f : FuncId} {fn : Func} {s : ChangeSpec} {conds : List PathCond} {apart fresh handsOn : Bool} {H : Type} {enc : TypeId × Value → H} {tb : TypeId}
    (own : ownKnob C.prog.godebug = none) (started : os.Started) (noInit : C.prog.inits.idxOf? f = none) (hfn : C.prog.funcs[f]? = some fn)
    (witness : ∃ (w : World) (tape : Tape) (i : Input), w.os = os ∧ (w.forCall tape i).Shaped C.prog ∧ i.vars = [] ∧ Input.okWide C.prog (w.forCall tape i) .any w.heap.size f i ∧
      s.pre6 enc C.prog fn conds apart (w.forCall tape i).memory i.args ∧ Assume.holds {} C.prog (lone (Frame.enter C.prog f i.args .normal) [] (w.forCall tape i)))
    (hl : laidOutB C.prog = true) (hpar : fn.params.toList.all (fun t => C.prog.readableRec t && decide (t < C.prog.types.size)) = true) (hv : s.vars = []) (hrt : fn.resultTypes = #[tb]) (htb : C.prog.underlying tb = some .bool)
    (walk : ∀ (W : World) (base : Nat) (args : Array Value) (ds : List (DataW H)) (p : List MemPlace), (∀ (j : Nat) t v, fn.params[j]? = some t → args[j]? = some v → Value.okWide C.prog W .any base t v) →
      DataW.TrodAll enc C.prog W 0 (fun _ => true) true fn.params.toList args.toList ds p → (DataW.weightsEach C.prog fn.params.toList ds).all (· ≤ reachBytes) = true → s.fn H ds = { results := [.lit (.bool true)], args := ds } ∧
      FnW C.prog f args (hp W) fun v H' => v = .bool true ∧ Keep Nil (hp W) H') :
    ReturnsInHanded {} C os f .any (s.pre6 enc C.prog fn conds apart) (s.post enc C.prog fn apart fresh handsOn false) := by
  refine returnsInHanded_of_calls own started noInit witness ?_
  intro w tape i _ _ _ hok hpre _
  obtain ⟨_, _, _, fn', hfn', _, _, _, _, hval⟩ := hok
  have e : fn' = fn := Option.some.inj (hfn'.symm.trans hfn)
  subst e
  obtain ⟨⟨ds, gs, before, hw, hc⟩, hz⟩ := hpre
  have hwt := hz.weights hw
  have hW := DataW.Whole.of_heap (w' := w.forCall tape i) (by rfl) hw
  have hW' := hW
  obtain ⟨p, q, hA, hV, rfl, _, _⟩ := hW'
  have hV' := hV
  rw [hv] at hV'
  obtain ⟨rfl, rfl⟩ := trodVars_none hV'
  have hvt : (OpenSpec.ofChange s).bare.plain.varTypes C.prog = [] := by
    have : (OpenSpec.ofChange s).bare.plain.vars = [] := hv
    unfold DataSpec.varTypes
    rw [this]; rfl
  rw [hvt, List.append_nil, List.append_nil] at hwt
  obtain ⟨hs, hf⟩ := walk (w.forCall tape i) w.heap.size i.args ds p hval hA hwt
  refine (hf.2 (w.forCall tape i) rfl).mono fun e W' ⟨v, he, ⟨hv', hk⟩, hr⟩ => ?_
  subst hv' he
  exact ChangeSpec.post_blind (post_true hl hpar hv hrt htb hW (by rw [List.append_nil]; exact hs) (hk.below hr))

end Go.Sh
