/-
  Copies of attributes over the heap: others, and the whole.
-/
import Derived.Test.YtomdgakmkihfhaaTl3
set_option linter.all false
set_option maxRecDepth 100000
namespace Go.Proofs.Ytomdgakmkihfhaa
open Go.Sh

abbrev Ts2 : List TypeId := [T_uint32, T_api_Segment, T_uint8]
abbrev Ts3 : List TypeId := [T_uint32, T_api_Segment, T_uint8, T_api_Raw]
def P2 (H Hx : Heap) (a1 x2 b3 : Nat) (av : List Value) (a : Attrs) (pre : List Raw) : Prop :=
  ∃ Z pa pn pc ca cn cc oa oc xs, Cp H Hx a1 x2 b3 Z Ts2 av (attG a pa pn pc ca cn cc oa pre.length oc) ∧ Sh.Own H Hx oa pre.length oc 2 T_api_Raw xs ∧ (∀ (i : Nat) (r : Tp ksRaw), (pre : List (Tp ksRaw))[i]? = some r → CellsOk Z Hx ksRaw r (fun j => xs[i * 2 + j]?)) ∧ oc ≤ lenMax ∧ CellOk Z Hx kU32 a.comms (.slice ca cn cc) ∧ CellOk Z Hx kSegs a.path (.slice pa pn pc)

theorem l9_round {H Hx : Heap} {a1 x2 b3 : Nat} {av : List Value} {a : Attrs} {pre post : List Raw} {s : Raw} {Zo : Nat → Prop} {qa : Option Addr} {qn qc : Nat} {next4 next : (Int × Unit) → Heap → Prop} {R : Value → Heap → Prop}
    (hp : a.others = pre ++ s :: post) (h : P2 H Hx a1 x2 b3 av a pre) (hq : CellOk Zo H (.lst ksRaw) a.others (.slice qa qn qc)) (hz : ∀ x, Zo x → H x ≠ none) (hl : a.others.length ≤ 1000) (hs : s.2.length ≤ 1000)
    (hn : ∀ Hy, P2 H Hy a1 x2 b3 av a (pre ++ [s]) → next (((pre ++ [s]).length : Int), ()) Hy) : attr_Copy_l9 x2 b3 qa qn qc next4 (pre.length : Int) Hx next R := by
  obtain ⟨Z, pa, pn, pc, ca, cn, cc, oa, oc, xs, cp, own, hc, hpc, hcm, hpm⟩ := h
  have hq' : CellOk Zo Hx (.lst ksRaw) a.others (.slice qa qn qc) := CellOk.ext (fun x hx => ⟨hx, cp.keep.same x (fun h => h.elim) (hz x hx)⟩) _ _ _ hq
  have hqn : qn = a.others.length := (lst_len (ks := ksRaw) hq').1
  have hpl : a.others.length = pre.length + (post.length + 1) := by rw [hp]; simp
  have hzx : ∀ x, Zo x → Hx x ≠ none := fun x hx => cp.keep.live x (hz x hx)
  unfold attr_Copy_l9
  refine ifT (decide_eq_true (by omega)) ?_
  have e : (a.others : List (Tp ksRaw))[pre.length]? = some s := by
    show a.others[pre.length]? = some s
    rw [hp]; simp
  obtain ⟨b, o, v, w, rfl, hb, h1, h2, h3, h4⟩ := at_two (k1 := .int .i64) (k2 := kBytes) (xs := a.others) hq' (i := pre.length) (x := s) e
  have hv := h2
  have h2 : v = .int .i64 s.1 := by
    simp only [CellOk] at h2
    exact h2.1
  subst h2
  have h4 : CellOk Zo Hx kBytes s.2 w := h4
  obtain ⟨sa, sn, sc, rfl⟩ := lst_slice h4
  refine NilP.intro _ rfl (InB.intro pre.length rfl (by omega) ?_)
  rw [elemAt_none]
  refine ⟨s.1, h1, sa, sn, sc, h3, newB fun m H2 f2 k2 b2 => ?_⟩
  refine stAll_blk (b := m) [.int .i64 s.1, .slice sa sn sc] 0 [] [.int .i64 0, .slice none 0 0] H2 b2 rfl rfl (by simp [plainC]) fun H4 b4 o4 => ?_
  have b4 : Blk H4 m T_api_Raw ⟨[.int .i64 s.1, .slice sa sn sc]⟩ := b4
  have k4 : Keep Nil Hx H4 := keep0 k2 (keep_box b4 o4) fun x hx => by subst hx; exact f2
  have cp4 := cp.kept k4
  have own4 := own_keep0 own k4 fun _ h => h.elim
  have hl4 : ∀ x ∈ [b3, m], H4 x ≠ none := fun x hx => by
    simp only [List.mem_cons, List.not_mem_nil, or_false] at hx
    rcases hx with rfl | rfl
    · exact cp4.B.some
    · exact b4.some
  refine ⟨[b3, m], ex_of hl4, by simp, oa, pre.length, oc, cell_at cp4.B 12 rfl, by simp, s.1, cell_at b4 0 rfl, sa, sn, sc, cell_at b4 1 rfl, ?_⟩
  have h44 : CellOk Zo H4 kBytes s.2 (.slice sa sn sc) := CellOk.ext (fun x hx => ⟨hx, k4.same x (fun h => h.elim) (hzx x hx)⟩) _ _ _ h4
  refine (clone8 h44 (by omega)).mono fun u H5 hu => ?_
  obtain ⟨k5, Zn, hzn, hu⟩ := hu
  obtain ⟨ua, un, uc, rfl⟩ := lst_slice hu
  refine ⟨ua, un, uc, rfl, kept_of hl4 k5, newB fun y H6 f6 k6 b6 => ?_⟩
  have cp5 := cp4.kept k5
  have k46 := k5.trans k6
  have cp6 := ((cp5.more ((hzn.early (k := cp4.keep)).mono (Ts' := Ts2) fun T hT => by simp only [List.mem_singleton] at hT; subst hT; simp)).kept k6)
  have own6 := own_keep0 own4 k46 fun _ h => h.elim
  have k06 : Keep Nil Hx H6 := k4.trans k46
  have zl : ∀ x, Z x → (Z x ∨ Zn x) ∧ H6 x = Hx x := fun x hx => ⟨.inl hx, k06.same x (fun h => h.elim) (cp.live x hx)⟩
  have hc6 : ∀ (i : Nat) (r : Tp ksRaw), (pre : List (Tp ksRaw))[i]? = some r → CellsOk (fun x => Z x ∨ Zn x) H6 ksRaw r (fun j => xs[i * 2 + j]?) := fun i r hr => CellsOk.ext zl _ _ _ (hc i r hr)
  have hu6 : CellOk (fun x => Z x ∨ Zn x) H6 kBytes s.2 (.slice ua un uc) := CellOk.ext (fun x hx => ⟨.inr hx, k6.same x (fun h => h.elim) (hzn.fresh x hx).2.1⟩) _ _ _ hu
  obtain ⟨it, i1, i2, i3⟩ := row_raw
  refine own_append2 (e := T_api_Raw) (xe := T_api_Raw) (k := 1) (xc := 1) (z := [.int .i64 0, .slice none 0 0]) (new := [.int .i64 s.1, .slice ua un uc]) (by kernel_rfl) (by kernel_rfl) i1 i2 i3 (by decide) (by kernel_rfl) rfl own6 cp6.keep (Reads.blk b6 rfl fun j hj => by simp) (by simp [plainC]) (by omega) fun a' cap' H7 q0 q1 q2 q3 q4 => ?_
  have hS : ∀ x, oa = some ⟨x, 0, none⟩ → H x = none ∧ ¬ (Z x ∨ Zn x) ∧ ∃ T c, Blk H6 x T c ∧ T ≠ T_api_Attrs := fun x hx => by
    obtain ⟨c, hb⟩ := own6.live hx
    refine ⟨own6.free hx, fun hzz => ?_, _, _, hb, by decide⟩
    obtain ⟨_, T, c', hb', hm⟩ := cp6.new x hzz
    have := blk_ty hb hb'
    subst this
    exact absurd hm (by decide)
  have cp7 := cp6.step q3 hS
  have zs : ∀ x, (Z x ∨ Zn x) → (Z x ∨ Zn x) ∧ H7 x = H6 x := fun x hx => ⟨hx, q3.same x (fun hs => (hS x hs).2.1 hx) (cp6.live x hx)⟩
  refine ⟨a', pre.length + 1, cap', rfl, cp7.set (by decide) (by simp [attG]) rfl fun H8 cp8 k8 => ?_⟩
  have ab : ∀ x, x = b3 → a' ≠ some ⟨x, 0, none⟩ := fun x hx ha => by
    subst hx
    obtain ⟨c, hb⟩ := q1.live ha
    exact absurd (blk_ty hb cp7.B) (by decide)
  have e2 : (pre ++ [s]).length = pre.length + 1 := by simp
  have e3 : IntKind.wrap .i64 ((pre.length : Int) + 1) = ((pre ++ [s]).length : Int) := by rw [wr_i64 (by omega) (by omega), e2]; rfl
  rw [e3]
  have zs8 : ∀ x, (Z x ∨ Zn x) → (Z x ∨ Zn x) ∧ H8 x = H7 x := fun x hx => ⟨hx, k8.same x (fun e => by subst e; exact cp7.notB (by decide) hx) (cp7.live x hx)⟩
  have zz : ∀ x, Z x → (Z x ∨ Zn x) ∧ H8 x = Hx x := fun x hx => ⟨.inl hx, by rw [(zs8 x (.inl hx)).2, (zs x (.inl hx)).2, (zl x hx).2]⟩
  refine hn H8 ⟨_, pa, pn, pc, ca, cn, cc, a', cap', xs ++ [.int .i64 s.1, .slice ua un uc], by rw [e2]; exact cp8, by rw [e2]; exact own_keep0 q1 k8 ab, ?_, q0 hpc, CellOk.ext zz _ _ _ hcm, CellOk.ext zz _ _ _ hpm⟩
  have hx2 : xs.length = pre.length * 2 := own.len
  exact fun i r hr => CellsOk.ext zs8 _ _ _ (CellsOk.ext zs _ _ _ (two_ok (k1 := .int .i64) (k2 := kBytes) (xs := pre) (x := s) (v := .int .i64 s.1) (w := .slice ua un uc) hx2 hc6 (by simp only [CellOk] at hv ⊢; exact hv) hu6 i r hr))

end Go.Proofs.Ytomdgakmkihfhaa
