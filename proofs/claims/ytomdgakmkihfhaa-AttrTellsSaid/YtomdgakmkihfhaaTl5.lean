/-
  Copies of attributes over the heap: the whole.
-/
import Derived.Test.YtomdgakmkihfhaaTl4
set_option linter.all false
set_option maxRecDepth 100000
namespace Go.Proofs.Ytomdgakmkihfhaa
open Go.Sh

/-- What a copy is. -/
def Copied (H : Heap) (a : Attrs) (v : Value) (H' : Heap) : Prop := Keep Nil H H' ∧ ∃ Z pa pn pc ca cn cc oa on oc, v = .agg ⟨attG a pa pn pc ca cn cc oa on oc⟩ ∧ NewZ H H' Z Ts3 ∧ Parts Z H' a pa pn pc ca cn cc oa on oc
theorem Copied.shut {H H' H'' : Heap} {a : Attrs} {v : Value} (h : Copied H a v H') (hs : Shut H H' H'') : Copied H a v H'' := by
  obtain ⟨k, Z, pa, pn, pc, ca, cn, cc, oa, on, oc, h1, h2, h3⟩ := h
  refine ⟨shutK k hs, Z, pa, pn, pc, ca, cn, cc, oa, on, oc, h1, h2.shut hs, h3.ext fun m hm => ⟨hm, ?_⟩⟩
  obtain ⟨_, T, c, q, _⟩ := h2 m hm
  rw [q]
  exact shutB q hs
theorem attG_plain {a : Attrs} {pa pn pc ca cn cc oa on oc} : ∀ v ∈ attG a pa pn pc ca cn cc oa on oc, plainC v = true := by
  intro v hv
  simp only [attG, List.mem_cons, List.not_mem_nil, or_false] at hv
  rcases hv with rfl | rfl | rfl | rfl | rfl | rfl | rfl | rfl | rfl | rfl | rfl | rfl | rfl <;> rfl
theorem l9_end {H Hx : Heap} {a1 x2 b3 : Nat} {av : List Value} {a : Attrs} {qa : Option Addr} {qn qc : Nat} {next4 next : (Int × Unit) → Heap → Prop} {R : Value → Heap → Prop} (ho : InR .i64 a.origin)
    (h : P2 H Hx a1 x2 b3 av a a.others) (hq : qn = a.others.length) (hr : ∀ v H', Copied H a v H' → R v H') : attr_Copy_l9 x2 b3 qa qn qc next4 (a.others.length : Int) Hx next R := by
  obtain ⟨Z, pa, pn, pc, ca, cn, cc, oa, oc, xs, cp, own, hc, hpc, hcm, hpm⟩ := h
  unfold attr_Copy_l9
  refine ifF (decide_eq_false (by omega)) ?_
  have y : ∀ j : Nat, Hx.cell ⟨b3, j, none⟩ = (attG a pa pn pc ca cn cc oa a.others.length oc)[j]? := fun j => by rw [cp.B.cell]; simp
  refine ⟨_, y 0, _, _, _, y 1, _, y 2, _, y 3, _, y 4, _, y 5, _, y 6, _, y 7, _, y 8, _, y 9, _, y 10, _, _, _, y 11, _, _, _, y 12, ?_⟩
  refine stAll_blk (b := x2) (attG a pa pn pc ca cn cc oa a.others.length oc) 0 [] zrA Hx cp.X rfl rfl attG_plain fun H' b' o' => ?_
  have b' : Blk H' x2 T_api_Attrs ⟨attG a pa pn pc ca cn cc oa a.others.length oc⟩ := b'
  have k' := keep_box b' o'
  have z : ∀ j : Nat, H'.cell ⟨x2, j, none⟩ = (attG a pa pn pc ca cn cc oa a.others.length oc)[j]? := fun j => by rw [b'.cell]; simp
  refine ⟨_, z 0, _, _, _, z 1, _, z 2, _, z 3, _, z 4, _, z 5, _, z 6, _, z 7, _, z 8, _, z 9, _, z 10, _, _, _, z 11, _, _, _, z 12, hr _ _ ?_⟩
  have nx : ∀ {m T c}, Blk Hx m T c → T ≠ T_api_Attrs → ¬ m = x2 := fun {m T c} hb hT e => by subst e; exact hT (blk_ty hb cp.X)
  have nz : ∀ m, Z m → ¬ m = x2 := fun m hm => by
    obtain ⟨_, T, c, hb, ht⟩ := cp.new m hm
    exact nx hb fun e => by subst e; exact absurd ht (by decide)
  have hZ : NewZ H H' (fun m => Z m ∨ oa = some ⟨m, 0, none⟩) Ts3 := by
    refine NewZ.both ((cp.new.keep k' nz).mono fun T hT => by simp only [List.mem_cons, List.not_mem_nil, or_false] at hT; rcases hT with rfl | rfl | rfl <;> simp) ((NewZ.own (own_keep0 own k' fun x hx ha => ?_)).mono fun T hT => ?_)
    · obtain ⟨c, hb⟩ := own.live ha
      exact nx hb (by decide) hx
    · simp only [List.mem_singleton] at hT; subst hT; simp
  refine ⟨keep0 cp.keep k' fun x hx => by subst hx; exact cp.fx, _, _, _, _, _, _, _, _, _, _, rfl, hZ, ?_⟩
  have ze : ∀ m, Z m → (Z m ∨ oa = some ⟨m, 0, none⟩) ∧ H' m = Hx m := fun m hm => ⟨.inl hm, o' m (nz m hm)⟩
  refine ⟨ho, CellOk.ext ze _ _ _ hpm, CellOk.ext ze _ _ _ hcm, ?_⟩
  refine own_frz (ks := ksRaw) (own_keep0 own k' fun x hx ha => ?_) rfl (fun i r hi => CellsOk.ext ze _ _ _ (hc i r hi)) hpc fun m hm => .inr hm
  obtain ⟨c, hb⟩ := own.live ha
  exact nx hb (by decide) hx

theorem take_split {A : Type} {l : List A} {i : Nat} (h : i < l.length) : ∃ s, l = l.take i ++ s :: l.drop (i + 1) ∧ l.take (i + 1) = l.take i ++ [s] ∧ s ∈ l :=
  ⟨l[i], by rw [← List.drop_eq_getElem_cons h, List.take_append_drop], by rw [List.take_add_one, List.getElem?_eq_getElem h]; rfl, List.getElem_mem h⟩

theorem copy_run {H : Heap} {Z : Nat → Prop} {a : Attrs} {vs : List Value} (hz : ∀ x, Z x → H x ≠ none) (h : SimL (gZ Z) H 0 (lvT ksAt a) vs)
    (hl1 : a.path.length ≤ 1000) (hs1 : ∀ s ∈ a.path, s.2.length ≤ 1000) (hl2 : a.others.length ≤ 1000) (hs2 : ∀ s ∈ a.others, s.2.length ≤ 1000) (hl3 : a.comms.length ≤ 1000) :
    FnW Try.prog f_attr_Copy ⟨[.agg ⟨vs⟩]⟩ H (Copied H a) := by
  obtain ⟨pa, pn, pc, ca, cn, cc, oa, on, oc, rfl, P⟩ := sim_open h
  refine attr_Copy_sh _ pa pn pc _ _ _ _ _ _ _ _ _ ca cn cc oa on oc ?_
  unfold attr_Copy_p
  refine newB fun a1 H1 f1 k1 b1 => newB fun x2 H2 f2 k2 b2 => ?_
  have b12 : Blk H2 a1 T_api_Attrs ⟨attG a pa pn pc ca cn cc oa on oc⟩ := k2.blk b1 fun h => h.elim
  have y : ∀ j : Nat, H2.cell ⟨a1, j, none⟩ = (attG a pa pn pc ca cn cc oa on oc)[j]? := fun j => by rw [b12.cell]; simp
  refine ⟨_, y 0, _, _, _, y 1, _, y 2, _, y 3, _, y 4, _, y 5, _, y 6, _, y 7, _, y 8, _, y 9, _, y 10, _, _, _, y 11, _, _, _, y 12, newB fun b3 H3 f3 k3 b3' => ?_⟩
  refine stAll_blk (b := b3) (attG a pa pn pc ca cn cc oa on oc) 0 [] zrA H3 b3' rfl rfl attG_plain fun H4 b4 o4 => ?_
  have b4 : Blk H4 b3 T_api_Attrs ⟨attG a pa pn pc ca cn cc oa on oc⟩ := b4
  have k4 := keep_box b4 o4
  have n1 : a1 ≠ b3 := fun e => b12.some (e ▸ f3)
  have n2 : x2 ≠ b3 := fun e => b2.some (e ▸ f3)
  have k02 : Keep Nil H H2 := k1.trans k2
  have k04 : Keep Nil H H4 := keep0 (k02.trans k3) k4 fun x hx => by subst hx; exact k02.free f3
  have bA4 : Blk H4 a1 T_api_Attrs ⟨attG a pa pn pc ca cn cc oa on oc⟩ := k4.blk (k3.blk b12 fun h => h.elim) n1
  have bX4 : Blk H4 x2 T_api_Attrs ⟨zrA⟩ := k4.blk (k3.blk b2 fun h => h.elim) n2
  have fX : H x2 = none := k1.free f2
  have fB : H b3 = none := k02.free f3
  have y4 : ∀ j : Nat, H4.cell ⟨a1, j, none⟩ = (attG a pa pn pc ca cn cc oa on oc)[j]? := fun j => by rw [bA4.cell]; simp
  refine ⟨_, _, _, y4 11, ?_⟩
  have P4 : Parts Z H4 a pa pn pc ca cn cc oa on oc := P.ext fun x hx => ⟨hx, k04.same x (fun h => h.elim) (hz x hx)⟩
  refine (clone32 P4.c (by omega)).mono fun u H5 hu => ?_
  obtain ⟨k5, Zn, hzn, hu⟩ := hu
  obtain ⟨ua, un, uc, rfl⟩ := lst_slice hu
  have cp5 : Cp H H5 a1 x2 b3 Zn [T_uint32] (attG a pa pn pc ca cn cc oa on oc) (attG a pa pn pc ca cn cc oa on oc) :=
    ⟨k04.trans k5, hzn.early k04, k5.blk bA4 fun h => h.elim, k5.blk bX4 fun h => h.elim, k5.blk b4 fun h => h.elim, f1, fX, fB, n1, n2⟩
  refine ⟨ua, un, uc, rfl, cp5.set (by decide) (by simp [attG]) rfl fun H6 cp6 k6 => cp6.set (by decide) (by simp [attG]) rfl fun H7 cp7 k7 => cp7.set (by decide) (by simp [attG]) rfl fun H8 cp8 k8 => ?_⟩
  have cp8 : Cp H H8 a1 x2 b3 Zn [T_uint32] (attG a pa pn pc ca cn cc oa on oc) (attG a none 0 0 ua un uc none 0 0) := cp8
  have z8 : ∀ x, Zn x → Zn x ∧ H8 x = H5 x := fun x hx => by
    have nb := cp5.notB (by decide)
    have e : ¬ x = b3 := fun e => nb (e ▸ hx)
    exact ⟨hx, by rw [k8.same x e (cp7.live x hx), k7.same x e (cp6.live x hx), k6.same x e (cp5.live x hx)]⟩
  have y8 : ∀ j : Nat, H8.cell ⟨a1, j, none⟩ = (attG a pa pn pc ca cn cc oa on oc)[j]? := fun j => by rw [cp8.A.cell]; simp
  refine ⟨_, _, _, y8 1, ?_⟩
  have i0 : P1 H H8 a1 x2 b3 (attG a pa pn pc ca cn cc oa on oc) a [] := ⟨Zn, none, 0, ua, un, uc, [], cp8, Sh.Own.nil, fun i r hr => by have hr' : ([] : List Seg)[i]? = some r := hr; simp at hr', by decide, CellOk.ext z8 _ _ _ hu⟩
  refine ⟨fun k x Hx => ∃ i : Nat, i ≤ a.path.length ∧ k = a.path.length - i ∧ x = ((i : Int), ()) ∧ P1 H Hx a1 x2 b3 (attG a pa pn pc ca cn cc oa on oc) a (a.path.take i), a.path.length, ⟨0, by omega, by omega, rfl, i0⟩, ?_⟩
  rintro k x Hx ⟨i, hi, rfl, rfl, hx⟩ g
  dsimp only
  rcases Nat.lt_or_ge i a.path.length with hi' | hi'
  · obtain ⟨s, e1, e2, hs⟩ := take_split hi'
    have el : (a.path.take i).length = i := by rw [List.length_take]; omega
    have := l4_round (next := fun x' H' => ∃ k', k' < a.path.length - i ∧ ∃ i : Nat, i ≤ a.path.length ∧ k' = a.path.length - i ∧ x' = ((i : Int), ()) ∧ P1 H H' a1 x2 b3 (attG a pa pn pc ca cn cc oa on oc) a (a.path.take i)) (R := fun v H1 => ∀ H2, Shut H H1 H2 → Copied H a v H2) e1 hx P.p hz hl1 (hs1 s hs) fun Hy hy => ⟨a.path.length - (i + 1), by omega, i + 1, by omega, rfl, by rw [← e2, List.length_take, Nat.min_eq_left (by omega)], by rw [e2]; exact hy⟩
    rw [el] at this
    exact this
  · have : i = a.path.length := by omega
    subst this
    rw [List.take_length] at hx
    obtain ⟨Z1, pa1, pc1, ca1, cn1, cc1, xs1, cp, own, hc, hpc, hcm⟩ := hx
    unfold attr_Copy_l4
    have hpn : pn = a.path.length := (lst_len (ks := ksSeg) P.p).1
    refine ifF (decide_eq_false (by omega)) ?_
    have yx : ∀ j : Nat, Hx.cell ⟨a1, j, none⟩ = (attG a pa pn pc ca cn cc oa on oc)[j]? := fun j => by rw [cp.A.cell]; simp
    refine ⟨_, _, _, yx 12, ?_⟩
    have hon : on = a.others.length := (lst_len (ks := ksRaw) P.r).1
    have cpz : Cp H Hx a1 x2 b3 (fun m => Z1 m ∨ pa1 = some ⟨m, 0, none⟩) Ts2 (attG a pa pn pc ca cn cc oa on oc) (attG a pa1 a.path.length pc1 ca1 cn1 cc1 none 0 0) := { cp with new := NewZ.both (cp.new.mono fun T hT => by simp only [List.mem_singleton] at hT; subst hT; simp) ((NewZ.own own).mono fun T hT => by simp only [List.mem_singleton] at hT; subst hT; simp) }
    have ze : ∀ m, Z1 m → (Z1 m ∨ pa1 = some ⟨m, 0, none⟩) ∧ Hx m = Hx m := fun m hm => ⟨.inl hm, rfl⟩
    have j0 : P2 H Hx a1 x2 b3 (attG a pa pn pc ca cn cc oa on oc) a [] := ⟨_, pa1, a.path.length, pc1, ca1, cn1, cc1, none, 0, [], cpz, Sh.Own.nil, fun i r hr => by have hr' : ([] : List Raw)[i]? = some r := hr; simp at hr', by decide, CellOk.ext ze _ _ _ hcm, own_frz (ks := ksSeg) own rfl (fun i r hi => CellsOk.ext ze _ _ _ (hc i r hi)) hpc fun m hm => .inr hm⟩
    refine ⟨fun k x Hx => ∃ i : Nat, i ≤ a.others.length ∧ k = a.others.length - i ∧ x = ((i : Int), ()) ∧ P2 H Hx a1 x2 b3 (attG a pa pn pc ca cn cc oa on oc) a (a.others.take i), a.others.length, ⟨0, by omega, by omega, rfl, j0⟩, ?_⟩
    rintro k x Hx ⟨i, hi, rfl, rfl, hx⟩ g
    dsimp only
    rcases Nat.lt_or_ge i a.others.length with hi' | hi'
    · obtain ⟨s, e1, e2, hs⟩ := take_split hi'
      have el : (a.others.take i).length = i := by rw [List.length_take]; omega
      refine of_eq (next := fun n : Int => attr_Copy_l9 x2 b3 oa on oc _ n Hx _ _) (x := ((a.others.take i).length : Int)) ?_ (by rw [el])
      exact l9_round e1 hx P.r hz hl2 (hs2 s hs) fun Hy hy => ⟨a.others.length - (i + 1), by omega, i + 1, by omega, rfl, by rw [← e2, List.length_take, Nat.min_eq_left (by omega)], by rw [e2]; exact hy⟩
    · have : i = a.others.length := by omega
      subst this
      rw [List.take_length] at hx
      exact l9_end P.o hx hon fun v H' hc H2 hs => hc.shut hs

end Go.Proofs.Ytomdgakmkihfhaa
