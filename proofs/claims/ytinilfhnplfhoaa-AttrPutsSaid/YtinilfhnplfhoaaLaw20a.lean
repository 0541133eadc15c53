/-
  The law: any attributes are put as the document says, or refused.
-/
import Derived.Test.YtinilfhnplfhoaaAtt5
namespace Go.Proofs.Ytinilfhnplfhoaa
open Go.Sh

theorem few_path (a : Attrs) : (fewA a).path.length ≤ 8 ∧ ∀ s ∈ (fewA a).path, s.2.length ≤ 260 := by
  simp only [fewA, Attrs.path]
  refine ⟨by simp only [List.length_map, List.length_take]; omega, fun s hs => ?_⟩
  simp only [List.mem_map] at hs
  obtain ⟨s', _, rfl⟩ := hs
  simp only [cutS, List.length_take]
  omega
theorem cnt_le : ∀ (p : List Seg) (n : Nat), (∀ s ∈ p, s.2.length ≤ n) → cnt p ≤ n * p.length
  | [], _, _ => by simp [cnt]
  | s :: p, n, h => by
    have h1 := cnt_le p n fun s hs => h s (by simp [hs])
    have h2 := h s (by simp)
    have h3 : cnt (s :: p) = s.2.length + cnt p := by simp [cnt]
    rw [List.length_cons, Nat.mul_succ]
    omega
theorem few_others (a : Attrs) : (fewA a).others.length ≤ 10 := by
  simp only [fewA, Attrs.others, List.length_map, List.length_take]; omega
theorem few_few (a : Attrs) : fewA (fewA a) = fewA a := by
  obtain ⟨origin, path, nxt, hasMed, med, hasLocal, loc, atomic, hasMaker, makerAS, maker, comms, others⟩ := a
  have e1 : ∀ s : Seg, cutS (cutS s) = cutS s := fun s => by simp only [cutS, List.take_take, Nat.min_self]
  have e2 : ∀ x : Raw, cutR (cutR x) = cutR x := fun x => by simp only [cutR, List.take_take, Nat.min_self]
  simp only [fewA, Attrs.origin, Attrs.path, Attrs.next, Attrs.hasMed, Attrs.med, Attrs.hasLocal, Attrs.loc, Attrs.atomic, Attrs.hasMaker, Attrs.makerAS, Attrs.maker, Attrs.comms, Attrs.others, List.take_take, Nat.min_self, ← List.map_take, List.map_map]
  simp only [Function.comp_def, e1, e2]

/-- The chapter's example. -/
theorem works_c (K : Bool → Prop) (h : K true) : law20_works_q K := by
  unfold law20_works_q
  have hok : attrsOk (0, [(false, [ofI .u32 65001])], ofI .u32 167772161, false, ofI .u32 0, false, ofI .u32 0, false, false, ofI .u32 0, ofI .u32 0, [], []) = true := by decide
  refine fun _ => attr_Put_c _ false _ (by decide) (by decide) (by decide) (by decide) fun _ => ?_
  rw [hok]
  exact fun _ _ => of_eq h (by decide)

theorem attrPuts_q (a : Attrs) (four : Bool) (hs : ∀ s ∈ a.path, s.2.length ≤ 35184372088736) : law20_AttrPuts_q a four fun r => r = true := by
  unfold law20_AttrPuts_q
  simp only [ofI_u32]
  have hp := few_path a
  have ho := few_others a
  have hc : cnt (fewA a).path ≤ 260 * (fewA a).path.length := cnt_le _ _ hp.2
  have hc2 : cnt (fewA a).path ≤ 9223372036854775807 := by omega
  have hl2 : (fewA a).path.length ≤ 9223372036854775807 := by omega
  have ho2 : (fewA a).others.length ≤ 9223372036854775807 := by omega
  have hs2 : ∀ s ∈ (fewA a).path, s.2.length ≤ 9223372036854775807 := fun s h => by have := hp.2 s h; omega
  have hs3 : ∀ s ∈ (fewA a).path, s.2.length ≤ 35184372088736 := fun s h => by have := hp.2 s h; omega
  refine fun _ => few_c a _ hs fun _ _ => few_c _ _ hs3 fun _ _ => ?_
  rw [show fewA (fewA a) = fewA a from few_few a]
  refine attr_Put_c (fewA a) four _ hl2 hc2 hs2 ho2 fun _ _ => ref20_Put_c (fewA a) four _ hl2 hc2 hs2 ho2 fun _ _ => few_c _ _ hs3 fun _ _ => ?_
  rw [show fewA (fewA a) = fewA a from few_few a]
  refine attr_Check_c (fewA a) _ hl2 hc2 ho2 fun _ _ => ref20_Check_c (fewA a) _ hl2 hc2 ho2 fun _ => ?_
  refine ifT (beq_self_eq_true _) fun _ => ?_
  dsimp only [base_SameBytes_q]
  refine fun _ => ifT (beq_self_eq_true _) (ifT (beq_self_eq_true _) fun _ => works_c _ fun _ => rfl)

end Go.Proofs.Ytinilfhnplfhoaa
