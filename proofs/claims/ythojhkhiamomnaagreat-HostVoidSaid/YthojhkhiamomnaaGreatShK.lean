/-
  Loops over maps of any keys and values.
-/
import Derived.Test.YthojhkhiamomnaaGreatShM
set_option linter.all false
namespace Go.Sh
section
variable {P : Program} {t kt el : TypeId} {H : Heap}
theorem RgG (hu : P.underlying t = some (.map kt el)) {b : Nat} {es : Array MapEntry} {ck : Nat} {K : Value → Heap → Prop} (hm : H b = some (.map es ck))
    (h : ∀ n, H n = none → K (.pointer (some ⟨n, 0, none⟩)) (H.upd n (.mapIter (some b) ck #[] ck))) : SemW P (Instr.range t (.map (some b))) H K := by
  unfold Instr.range
  refine (SemW.bind _ _ _ _).2 (semW_underlying hu ?_)
  refine (SemW.bind _ _ _ _).2 ?_
  show SemW P (getObj b >>= _) H _
  refine (SemW.bind _ _ _ _).2 ⟨_, hm, rfl, ?_⟩
  intro n hn
  exact h n hn
theorem NxG {b it : Nat} {es : List MapEntry} {ck : Nat} {seen : List Nat} {ty : TypeId} {K : Value → Heap → Prop} (hi : H it = some (.mapIter (some b) ck ⟨seen⟩ ck)) (hm : H b = some (.map ⟨es⟩ ck)) (hb : ∀ e ∈ es, e.born < ck)
    (hover : (∀ e ∈ es, e.born ∈ seen) → K (.tuple #[.bool false]) H)
    (hstep : ∀ e ∈ es, e.born ∉ seen → K (.tuple #[.bool true, e.key, e.val]) (H.upd it (.mapIter (some b) ck ⟨seen ++ [e.born]⟩ ck))) :
    SemW P (Instr.next (.pointer (some ⟨it, 0, none⟩)) false ty) H K := by
  unfold Instr.next
  show SemW P (getObj it >>= _) H K
  refine (SemW.bind _ _ _ _).2 ⟨_, hi, rfl, ?_⟩
  show SemW P (getObj b >>= _) H K
  refine (SemW.bind _ _ _ _).2 ⟨_, hm, rfl, ?_⟩
  have hno : (!(⟨seen⟩ : Array Nat).isEmpty && !(⟨es⟩ : Array MapEntry).isEmpty && (⟨es⟩ : Array MapEntry).all (·.born ≥ ck)) = false := by
    cases es with
    | nil => simp
    | cons e es =>
      have := hb e List.mem_cons_self
      have h2 : ¬ ck ≤ e.born := by omega
      simp [h2]
  show SemW P (if (!(⟨seen⟩ : Array Nat).isEmpty && !(⟨es⟩ : Array MapEntry).isEmpty && (⟨es⟩ : Array MapEntry).all (·.born ≥ ck)) = true then _ else _) H K
  rw [hno, if_neg (by simp)]
  -- what is left
  obtain ⟨L, hL⟩ : ∃ L : List MapEntry, L = es.filter fun e => !(seen.contains e.born) := ⟨_, rfl⟩
  have hleft : (⟨es⟩ : Array MapEntry).filter (fun e => !(⟨seen⟩ : Array Nat).contains e.born) = ⟨L⟩ := by
    apply Array.ext'
    rw [Array.toList_filter, hL]
    apply List.filter_congr
    intro e _
    congr 1
    rw [Bool.eq_iff_iff]
    simp
  have hold : (⟨L⟩ : Array MapEntry).filter (fun e => decide (e.born < ck)) = ⟨L⟩ := by
    apply Array.ext'
    rw [Array.toList_filter, List.filter_eq_self]
    intro m hmm
    have he : m ∈ L := hmm
    rw [hL] at he
    exact decide_eq_true (hb m (List.mem_filter.1 he).1)
  have hnew : (⟨L⟩ : Array MapEntry).filter (fun e => decide (e.born ≥ ck)) = ⟨[]⟩ := by
    apply Array.ext'
    rw [Array.toList_filter, List.filter_eq_nil_iff]
    intro m hmm
    have he : m ∈ L := hmm
    rw [hL] at he
    have := hb m (List.mem_filter.1 he).1
    simp; omega
  have hC : ((if (⟨L⟩ : Array MapEntry).isEmpty = true then #[none] else #[]) ++ Array.map some ((⟨L⟩ : Array MapEntry) ++ (⟨[]⟩ : Array MapEntry)) : Array (Option MapEntry)) = ⟨if L = [] then [none] else L.map fun e => some e⟩ := by
    apply Array.ext'
    cases L with
    | nil => simp
    | cons x L => simp
  simp only [hleft, hold, hnew, hC]
  refine (SemW.bind _ _ _ _).2 ?_
  by_cases h0 : L = []
  · have over : K (.tuple #[.bool false]) H := hover fun e he => by
      rw [hL, List.filter_eq_nil_iff] at h0
      simpa using h0 e he
    rw [if_pos h0]
    refine ⟨fun _ => over, fun _ t => ?_⟩
    have h1 : (Question.mapNext 1).cut t = 0 := by show t % 1 = 0; omega
    show SemW P (match (⟨[none]⟩ : Array (Option MapEntry))[(Question.mapNext 1).cut t]? with
        | some (some e) => (do setObj it (.mapIter (some b) ck ((⟨seen⟩ : Array Nat).push e.born) ck); pure (.tuple #[.bool true, e.key, e.val]))
        | some none => pure (.tuple #[.bool false])
        | none => stuck "Next: no such candidate") H K
    rw [h1]
    exact over
  · have hpos : 0 < L.length := List.length_pos_iff.2 h0
    rw [if_neg h0]
    have key : ∀ i : Nat, i < L.length → SemW P (match (⟨L.map fun e => some e⟩ : Array (Option MapEntry))[i]? with
        | some (some e) => (do setObj it (.mapIter (some b) ck ((⟨seen⟩ : Array Nat).push e.born) ck); pure (.tuple #[.bool true, e.key, e.val]))
        | some none => pure (.tuple #[.bool false])
        | none => stuck "Next: no such candidate") H K := by
      intro i hi2
      have hm2 : L[i] ∈ es.filter (fun e => !(seen.contains e.born)) := by rw [← hL]; exact List.getElem_mem hi2
      have h2 := List.mem_filter.1 hm2
      have he : (⟨L.map fun e => some e⟩ : Array (Option MapEntry))[i]? = some (some L[i]) := by simp [hi2]
      rw [he]
      refine (SemW.bind _ _ _ _).2 ⟨⟨_, hi, rfl, rfl⟩, ?_⟩
      have hp : (⟨seen⟩ : Array Nat).push L[i].born = ⟨seen ++ [L[i].born]⟩ := by apply Array.ext'; simp
      rw [hp]
      exact hstep _ h2.1 (by simpa using h2.2)
    refine ⟨fun _ => key 0 hpos, fun _ t => ?_⟩
    refine key _ ?_
    show t % (⟨L.map fun e => some e⟩ : Array (Option MapEntry)).size < L.length
    rw [show (⟨L.map fun e => some e⟩ : Array (Option MapEntry)).size = L.length by simp]
    exact Nat.mod_lt _ hpos
theorem EnG {b it : Nat} {es : List MapEntry} {ck : Nat} {seen : List Nat} {e : MapEntry} {K : Value → Heap → Prop} (hi : H it = some (.mapIter (some b) ck ⟨seen ++ [e.born]⟩ ck)) (hm : H b = some (.map ⟨es⟩ ck)) (he : e ∈ es) (hd : ∀ x ∈ es, x.born = e.born → x = e)
    (h : K (.tuple #[e.key, e.val]) H) : SemW P (Instr.entry (.pointer (some ⟨it, 0, none⟩))) H K := by
  unfold Instr.entry
  show SemW P (getObj it >>= _) H K
  refine (SemW.bind _ _ _ _).2 ⟨_, hi, rfl, ?_⟩
  have hb : (⟨seen ++ [e.born]⟩ : Array Nat).back? = some e.born := by simp [Array.back?]
  dsimp only [SemW]
  rw [hb]
  show SemW P (getObj b >>= _) H K
  refine (SemW.bind _ _ _ _).2 ⟨_, hm, rfl, ?_⟩
  have hf : (⟨es⟩ : Array MapEntry).find? (fun x => x.born == e.born) = some e := by
    rw [← Array.find?_toList]
    show (es).find? (fun x => x.born == e.born) = some e
    clear h hm hi
    induction es with
    | nil => cases he
    | cons x es ih =>
      simp only [List.find?_cons]
      by_cases hx : x.born = e.born
      · have := hd x List.mem_cons_self hx
        subst this
        simp
      · have h1 : (x.born == e.born) = false := by simp [hx]
        rw [h1]
        refine ih ?_ fun y hy => hd y (List.mem_cons_of_mem _ hy)
        rcases List.mem_cons.1 he with rfl | he
        · exact absurd rfl hx
        · exact he
  have hne : (ck != ck) = false := by simp
  show SemW P (if (ck != ck) = true then _ else _) H K
  rw [hne, if_neg (by simp)]
  rw [hf]
  exact h
end
end Go.Sh
