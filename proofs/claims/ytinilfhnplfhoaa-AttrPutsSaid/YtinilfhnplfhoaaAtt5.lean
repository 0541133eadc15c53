/-
  Attributes (layer 20): copies; attributes with few members.
-/
import Derived.Test.YtinilfhnplfhoaaAtt4
namespace Go.Proofs.Ytinilfhnplfhoaa
open Go.Sh

theorem rcopy_c (a : Attrs) (K : Attrs → Prop) (hl : a.path.length < 1000000000) (hs : ∀ s ∈ a.path, s.2.length ≤ 35184372088736) (hm : a.comms.length ≤ 35184372088736) (ho : a.others.length ≤ 4398046511008) (hd : ∀ x ∈ a.others, x.2.length ≤ 140737488355232) (h : K a) : ref20_Copy_q a K := by
  obtain ⟨origin, path, nxt, hasMed, med, hasLocal, loc, atomic, hasMaker, makerAS, maker, comms, others⟩ := a
  simp only [Attrs.path, Attrs.comms, Attrs.others] at *
  dsimp only [ref20_Copy_q]
  refine fun _ => ref19_Copy_c path _ hl hs fun _ => ⟨by simp only [List.length_nil]; omega, ?_⟩
  refine LoopJ.over others (fun pre => ((pre.length : Int), origin, path, (nxt.toNat : Int), hasMed, (med.toNat : Int), hasLocal, (loc.toNat : Int), atomic, hasMaker, (makerAS.toNat : Int), (maker.toNat : Int), comms, pre, ())) (fun _ => True) rfl trivial (fun pre x post hp hn _ next hx => ?_) (fun _ next _ => ?_)
  · intro _
    dsimp only [ref20_Copy_l6]
    have hx2 := hd x (by simp [hp])
    refine ifT (decide_eq_true (by omega)) ⟨by omega, AtN.of (at_pre hp) fun _ => ⟨by omega, AtN.of (at_pre hp) fun _ => ⟨by simp only [List.length_nil]; omega, by simp only [List.length_cons, List.length_nil]; omega, of_eq (hx trivial) ?_⟩⟩⟩
    rw [wr_i64 (by omega) (by omega)]
    simp
  · dsimp only [ref20_Copy_l6]
    refine ifF (decide_eq_false (by omega)) (of_eq h ?_)
    simp only [ofI_u32]

def cutS (s : Seg) : Seg := (s.1, s.2.take 260)
def cutR (x : Raw) : Raw := (x.1, x.2.take 260)
/-- Attributes with few members. -/
def fewA (a : Attrs) : Attrs := (a.origin, (a.path.take 8).map cutS, a.next, a.hasMed, a.med, a.hasLocal, a.loc, a.atomic, a.hasMaker, a.makerAS, a.maker, a.comms.take 40, (a.others.take 10).map cutR)

theorem min_nat (a b : Nat) : (min (a : Int) (b : Int)) = ((min a b : Nat) : Int) := by omega
theorem take_min {A : Type} (l : List A) (n : Nat) : l.take (min l.length n) = l.take n := by
  rcases Nat.le_total l.length n with h | h
  · rw [Nat.min_eq_left h, List.take_of_length_le (Nat.le_refl _), List.take_of_length_le h]
  · rw [Nat.min_eq_right h]

theorem few_c (a : Attrs) (K : Attrs → Prop) (hs : ∀ s ∈ a.path, s.2.length ≤ 35184372088736) (h : K (fewA a)) : law20_few_q a K := by
  obtain ⟨origin, path, nxt, hasMed, med, hasLocal, loc, atomic, hasMaker, makerAS, maker, comms, others⟩ := a
  simp only [fewA, Attrs.origin, Attrs.path, Attrs.next, Attrs.hasMed, Attrs.med, Attrs.hasLocal, Attrs.loc, Attrs.atomic, Attrs.hasMaker, Attrs.makerAS, Attrs.maker, Attrs.comms, Attrs.others] at *
  dsimp only [law20_few_q]
  have e8 : (min (path.length : Int) 8).toNat = min path.length 8 := by omega
  refine ⟨by omega, by omega, ?_⟩
  rw [e8, take_min]
  have h8 : (path.take 8).length ≤ 8 := by simp; omega
  have hs8 : ∀ s ∈ path.take 8, s.2.length ≤ 35184372088736 := fun s h => hs s (List.mem_of_mem_take h)
  generalize path.take 8 = p8 at *
  refine fun _ => ref19_Copy_c p8 _ (by omega) hs8 fun _ => ?_
  refine LoopJ.over p8 (fun pre => ((pre.length : Int), origin, pre.map cutS ++ p8.drop pre.length, (nxt.toNat : Int), hasMed, (med.toNat : Int), hasLocal, (loc.toNat : Int), atomic, hasMaker, (makerAS.toNat : Int), (maker.toNat : Int), comms, others, ())) (fun _ => True) (by simp) trivial (fun pre x post hp hn _ next hx => ?_) (fun _ next _ => ?_)
  · intro _
    dsimp only [law20_few_l3]
    have hdrop : p8.drop pre.length = x :: post := by rw [hp]; simp
    have hdrop1 : p8.drop (pre ++ [x]).length = post := by
      have : pre ++ x :: post = (pre ++ [x]) ++ post := by simp
      rw [hp, this, List.drop_left]
    rw [hdrop]
    have hlen : (pre.map cutS ++ x :: post).length = p8.length := by rw [hp]; simp
    have hget : (pre.map cutS ++ x :: post)[((pre.length : Nat) : Int).toNat]? = some x := by simp
    have e260 : (min (x.2.length : Int) 260).toNat = min x.2.length 260 := by omega
    refine ifT (decide_eq_true (by omega)) ⟨by omega, by omega, AtN.of hget fun _ => ⟨by omega, by omega, AtN.of hget fun _ => ⟨by omega, by omega, by omega, by omega, AtN.of hget fun _ => of_eq (hx trivial) ?_⟩⟩⟩
    rw [wr_i64 (by omega) (by omega), e260, take_min, hdrop1]
    simp [cutS, List.set_append]
  · dsimp only [law20_few_l3]
    have hdrop : p8.drop p8.length = [] := by simp
    rw [hdrop, List.append_nil, List.length_map]
    have e40 : (min (comms.length : Int) 40).toNat = min comms.length 40 := by omega
    refine ifF (decide_eq_false (by omega)) ⟨by omega, by omega, ?_⟩
    have h10 : (others.take 10).length ≤ 10 := by simp; omega
    have hfin : ∀ (i : Int) (next : (List Raw × Int × Unit) → Prop), law20_few_j0 origin (p8.map cutS) (nxt.toNat : Int) hasMed (med.toNat : Int) hasLocal (loc.toNat : Int) atomic hasMaker (makerAS.toNat : Int) (maker.toNat : Int) comms others ((others.take 10).map cutR) i next false K := fun i next => by
      dsimp only [law20_few_j0]
      refine ifF rfl ?_
      simp only [ofI_u32]
      rw [e40, take_min]
      refine fun _ => rcopy_c _ _ ?_ ?_ ?_ ?_ ?_ fun _ => ?_
      · simp only [Attrs.path, List.length_map]; omega
      · intro s hs
        simp only [Attrs.path, List.mem_map] at hs
        obtain ⟨s', _, rfl⟩ := hs
        simp only [cutS, List.length_take]
        omega
      · simp only [Attrs.comms, List.length_take]; omega
      · simp only [Attrs.others, List.length_map]; omega
      · intro x hx
        simp only [Attrs.others, List.mem_map] at hx
        obtain ⟨x', _, rfl⟩ := hx
        simp only [cutR, List.length_take]
        omega
      · simp only [ofI_u32]
        exact h
    refine LoopJ.over (others.take 10) (fun pre => (pre.map cutR, (pre.length : Int), ())) (fun _ => True) rfl trivial (fun pre x post hp hn _ next' hy => ?_) (fun _ next' _ => ?_)
    · intro _
      dsimp only [law20_few_l9]
      have hlt : pre.length < others.length := by
        have : (others.take 10).length ≤ others.length := by rw [List.length_take]; omega
        omega
      have hget : others[((pre.length : Nat) : Int).toNat]? = some x := by
        have h1 := at_pre hp
        rw [List.getElem?_take_of_lt (by simp; omega)] at h1
        exact h1
      have e260 : (min (x.2.length : Int) 260).toNat = min x.2.length 260 := by omega
      refine ifT (decide_eq_true (by omega)) ?_
      dsimp only [law20_few_j0]
      refine ifT (decide_eq_true (by omega)) ⟨by omega, AtN.of hget fun _ => ⟨by omega, AtN.of hget fun _ => ⟨by omega, AtN.of hget fun _ => ⟨by omega, by omega, by simp only [List.length_map, List.length_cons, List.length_nil]; omega, of_eq (hy trivial) ?_⟩⟩⟩⟩
      rw [wr_i64 (by omega) (by omega), e260, take_min]
      simp [cutR]
    · dsimp only [law20_few_l9]
      refine IfB.intro (fun h1 => ?_) (fun _ => hfin _ _)
      have h1 : ((others.take 10).length : Int) < (others.length : Int) := by simpa only [decide_eq_true_eq] using h1
      have h2 : (others.take 10).length = min 10 others.length := List.length_take
      rw [decide_eq_false (by omega)]
      exact hfin _ _

end Go.Proofs.Ytinilfhnplfhoaa
