/-
  The law: attributes are told to be the same, or not, and a copy is of its own.
-/
import Derived.Test.YtomdgakmkihfhaaTl9
set_option linter.all false
set_option maxRecDepth 100000
namespace Go.Proofs.Ytomdgakmkihfhaa
open Go.Sh

theorem end_of {H Hx : Heap} {a2 c5 : Nat} {a : Attrs} {Za Zc : Nat → Prop} {pa pn pc ca cn cc oa on oc pa' pn' pc' ca' cn' cc' oa' on' oc'} (kp : Keep Nil H Hx) (A : Blk Hx a2 T_api_Attrs ⟨attG a pa pn pc ca cn cc oa on oc⟩) (C : Blk Hx c5 T_api_Attrs ⟨attG a pa' pn' pc' ca' cn' cc' oa' on' oc'⟩)
    (P : Parts Za Hx a pa pn pc ca cn cc oa on oc) (za : ∀ m, Za m → Hx m ≠ none) (zc : ∀ m, Zc m → H m = none ∧ ¬ Za m ∧ m ≠ a2 ∧ m ≠ c5 ∧ ∃ T c, Blk Hx m T c) (P' : Parts Zc Hx a pa' pn' pc' ca' cn' cc' oa' on' oc') : End H Hx a2 c5 a Za Zc pa pn pc ca cn cc oa on oc pa' pn' pc' ca' cn' cc' oa' on' oc' 0 0 0 0 0 0 := by
  refine ⟨kp, A, C, P, za, zc, (lst_len (ks := [.int .u32]) P'.c).1, (lst_len (ks := ksSeg) P'.p).1, (lst_len (ks := ksRaw) P'.r).1, fun x t hx => ?_, fun s t hs => ?_, fun s t hs => ?_⟩
  · obtain ⟨b, o, v, rfl, hb, r1, r2⟩ := at_one (k := .int .u32) (xs := a.comms) P'.c (i := 0) (x := x) (by show a.comms[0]? = some x; rw [hx]; rfl)
    have r2 : v = .int .u32 (x.toNat : Int) := by simp only [CellOk] at r2; exact r2.1
    subst r2
    refine ⟨b, o, rfl, hb, 0, Nat.le_refl _, Nat.le_refl _, ?_⟩
    rw [Nat.add_zero, wu32 (UInt32.toNat_lt x)]
    exact r1
  · obtain ⟨b, o, v, w, rfl, hb, q1, q2, q3, q4⟩ := at_two (k1 := .bool) (k2 := kU32) (xs := a.path) P'.p (i := 0) (x := s) (by show a.path[0]? = some s; rw [hs]; rfl)
    have q4 : CellOk Zc Hx kU32 s.2 w := q4
    obtain ⟨wa, wn, wc, rfl⟩ := lst_slice q4
    refine ⟨b, o, wa, wn, wc, rfl, q3, (lst_len (ks := [.int .u32]) q4).1, fun x r hx => ?_⟩
    obtain ⟨b, o, v, rfl, hb, r1, r2⟩ := at_one (k := .int .u32) (xs := s.2) q4 (i := 0) (x := x) (by show s.2[0]? = some x; rw [hx]; rfl)
    have r2 : v = .int .u32 (x.toNat : Int) := by simp only [CellOk] at r2; exact r2.1
    subst r2
    refine ⟨b, o, rfl, hb, 0, Nat.le_refl _, Nat.le_refl _, ?_⟩
    rw [Nat.add_zero, wu32 (UInt32.toNat_lt x)]
    exact r1
  · obtain ⟨b, o, v, w, rfl, hb, q1, q2, q3, q4⟩ := at_two (k1 := .int .i64) (k2 := kBytes) (xs := a.others) P'.r (i := 0) (x := s) (by show a.others[0]? = some s; rw [hs]; rfl)
    have q4 : CellOk Zc Hx kBytes s.2 w := q4
    obtain ⟨wa, wn, wc, rfl⟩ := lst_slice q4
    refine ⟨b, o, wa, wn, wc, rfl, q3, (lst_len (ks := [.int .u8]) q4).1, fun x r hx => ?_⟩
    obtain ⟨b, o, v, rfl, hb, r1, r2⟩ := at_one (k := .int .u8) (xs := s.2) q4 (i := 0) (x := x) (by show s.2[0]? = some x; rw [hx]; rfl)
    have r2 : v = .int .u8 (x.toNat : Int) := by simp only [CellOk] at r2; exact r2.1
    subst r2
    refine ⟨b, o, rfl, hb, 0, Nat.le_refl _, Nat.le_refl _, ?_⟩
    rw [Nat.add_zero, wu8m, Nat.mod_eq_of_lt (UInt8.toNat_lt x)]
    exact r1

theorem law_run {H : Heap} {Z : Nat → Prop} {a b : Attrs} {va vb : List Value} (hz : ∀ x, Z x → H x ≠ none) (hy : Lyd H) (h1 : SimL (gZ Z) H 0 (lvT ksAt a) va) (h2 : SimL (gZ Z) H 0 (lvT ksAt b) vb)
    (ha : ∀ s ∈ a.path, s.2.length ≤ 35184372088736) (hb : ∀ s ∈ b.path, s.2.length ≤ 35184372088736) :
    FnW Try.prog f_law20_AttrTells ⟨[.agg ⟨va⟩, .agg ⟨vb⟩]⟩ H fun v H' => Keep Nil H H' ∧ v = .bool true := by
  obtain ⟨pa1, pn1, pc1, ca1, cn1, cc1, oa1, on1, oc1, rfl, P1⟩ := sim_open h1
  obtain ⟨pa2, pn2, pc2, ca2, cn2, cc2, oa2, on2, oc2, rfl, P2⟩ := sim_open h2
  refine law20_AttrTells_sh _ pa1 pn1 pc1 _ _ _ _ _ _ _ _ _ ca1 cn1 cc1 oa1 on1 oc1 _ pa2 pn2 pc2 _ _ _ _ _ _ _ _ _ ca2 cn2 cc2 oa2 on2 oc2 ?_
  have hR : ∀ H', Keep Nil H H' → ∀ H2, Shut H H' H2 → Keep Nil H H2 ∧ (Value.bool true) = .bool true := fun H' k H2 hs => ⟨shutK k hs, rfl⟩
  unfold law20_AttrTells_p
  refine newB fun a2 H1 f1 k1 b1 => newB fun b3 H2 f2 k2 b2 => ?_
  have bA2 : Blk H2 a2 T_api_Attrs ⟨attG a pa1 pn1 pc1 ca1 cn1 cc1 oa1 on1 oc1⟩ := k2.blk b1 fun h => h.elim
  have bB2 : Blk H2 b3 T_api_Attrs ⟨attG b pa2 pn2 pc2 ca2 cn2 cc2 oa2 on2 oc2⟩ := b2
  have k02 : Keep Nil H H2 := k1.trans k2
  have fB : H b3 = none := k1.free f2
  have nAB : a2 ≠ b3 := fun e => b1.some (e ▸ f2)
  have yA : ∀ j : Nat, H2.cell ⟨a2, j, none⟩ = (attG a pa1 pn1 pc1 ca1 cn1 cc1 oa1 on1 oc1)[j]? := fun j => by rw [bA2.cell]; simp
  have yB : ∀ j : Nat, H2.cell ⟨b3, j, none⟩ = (attG b pa2 pn2 pc2 ca2 cn2 cc2 oa2 on2 oc2)[j]? := fun j => by rw [bB2.cell]; simp
  have hl2 : ∀ x ∈ [b3], H2 x ≠ none := fun x hx => by
    simp only [List.mem_singleton] at hx; subst hx; exact bB2.some
  refine ⟨[b3], ex_of hl2, _, yA 0, _, _, _, yA 1, _, yA 2, _, yA 3, _, yA 4, _, yA 5, _, yA 6, _, yA 7, _, yA 8, _, yA 9, _, yA 10, _, _, _, yA 11, _, _, _, yA 12, by simp, _, yB 0, _, _, _, yB 1, _, yB 2, _, yB 3, _, yB 4, _, yB 5, _, yB 6, _, yB 7, _, yB 8, _, yB 9, _, yB 10, _, _, _, yB 11, _, _, _, yB 12, ?_⟩
  have hz2 : ∀ x, Z x → H2 x ≠ none := fun x hx => k02.live x (hz x hx)
  refine (few_run hz2 (hy.keep k02) (P1.ext fun x hx => ⟨hx, k02.same x (fun h => h.elim) (hz x hx)⟩) ha).mono fun v H3 hm => ?_
  obtain ⟨k3, Zn3, pa3, pn3, pc3, ca3, cn3, cc3, oa3, on3, oc3, rfl, hf3, P3⟩ := hm
  refine ⟨_, pa3, pn3, pc3, _, _, _, _, _, _, _, _, _, ca3, cn3, cc3, oa3, on3, oc3, rfl, kept_of hl2 k3, ?_⟩
  have k03 := k02.trans k3
  have hz3 : ∀ x, Z x → H3 x ≠ none := fun x hx => k03.live x (hz x hx)
  refine (few_run hz3 (hy.keep k03) (P2.ext fun x hx => ⟨hx, k03.same x (fun h => h.elim) (hz x hx)⟩) hb).mono fun v H4 hm => ?_
  obtain ⟨k4, Zn4, pa4, pn4, pc4, ca4, cn4, cc4, oa4, on4, oc4, rfl, hf4, P4⟩ := hm
  have k04 := k03.trans k4
  have k24 := k3.trans k4
  have zA : ∀ x, (Z x ∨ Zn3 x) → H3 x ≠ none ∧ x ≠ a2 ∧ x ≠ b3 := fun x hx => by
    rcases hx with hx | hx
    · exact ⟨hz3 x hx, fun e => hz x hx (e ▸ f1), fun e => hz x hx (e ▸ fB)⟩
    · exact ⟨(hf3 x hx).2.1, fun e => bA2.some (e ▸ (hf3 x hx).1), fun e => bB2.some (e ▸ (hf3 x hx).1)⟩
  have bA3 : Blk H3 a2 T_api_Attrs ⟨attG a pa1 pn1 pc1 ca1 cn1 cc1 oa1 on1 oc1⟩ := k3.blk bA2 fun h => h.elim
  have bB3 : Blk H3 b3 T_api_Attrs ⟨attG b pa2 pn2 pc2 ca2 cn2 cc2 oa2 on2 oc2⟩ := k3.blk bB2 fun h => h.elim
  have zB : ∀ x, (Z x ∨ Zn4 x) → H4 x ≠ none ∧ x ≠ a2 ∧ x ≠ b3 := fun x hx => by
    rcases hx with hx | hx
    · exact ⟨k04.live x (hz x hx), fun e => hz x hx (e ▸ f1), fun e => hz x hx (e ▸ fB)⟩
    · exact ⟨(hf4 x hx).2.1, fun e => bA3.some (e ▸ (hf4 x hx).1), fun e => bB3.some (e ▸ (hf4 x hx).1)⟩
  have l_a := lim_few a
  have l_b := lim_few b
  have ffa : fewA (fewA a) = fewA a := few_few a
  have ffb : fewA (fewA b) = fewA b := few_few b
  generalize fewA a = A at *
  generalize fewA b = B at *
  refine ⟨_, pa4, pn4, pc4, _, _, _, _, _, _, _, _, _, ca4, cn4, cc4, oa4, on4, oc4, rfl, ?_⟩
  refine stAll_blk (b := a2) (attG A pa3 pn3 pc3 ca3 cn3 cc3 oa3 on3 oc3) 0 [] (attG a pa1 pn1 pc1 ca1 cn1 cc1 oa1 on1 oc1) H4 (k4.blk bA3 fun h => h.elim) rfl rfl attG_plain fun H5 bA5 o5 => ?_
  have bA5 : Blk H5 a2 T_api_Attrs ⟨attG A pa3 pn3 pc3 ca3 cn3 cc3 oa3 on3 oc3⟩ := bA5
  refine stAll_blk (b := b3) (attG B pa4 pn4 pc4 ca4 cn4 cc4 oa4 on4 oc4) 0 [] (attG b pa2 pn2 pc2 ca2 cn2 cc2 oa2 on2 oc2) H5 ((k4.blk bB3 fun h => h.elim).same (o5 b3 (Ne.symm nAB))) rfl rfl attG_plain fun H6 bB6 o6 => ?_
  have bB6 : Blk H6 b3 T_api_Attrs ⟨attG B pa4 pn4 pc4 ca4 cn4 cc4 oa4 on4 oc4⟩ := bB6
  have bA6 : Blk H6 a2 T_api_Attrs ⟨attG A pa3 pn3 pc3 ca3 cn3 cc3 oa3 on3 oc3⟩ := bA5.same (o6 a2 nAB)
  have k06 : Keep Nil H H6 := keep0 (keep0 k04 (keep_box bA5 o5) fun x hx => by subst hx; exact f1) (keep_box bB6 o6) fun x hx => by subst hx; exact fB
  have s6 : ∀ x, x ≠ a2 → x ≠ b3 → H6 x = H4 x := fun x h1 h2 => by rw [o6 x h2, o5 x h1]
  have PA6 : Parts (fun x => Z x ∨ Zn3 x) H6 A pa3 pn3 pc3 ca3 cn3 cc3 oa3 on3 oc3 := P3.ext fun x hx => ⟨hx, by
    obtain ⟨q1, q2, q3⟩ := zA x hx
    rw [s6 x q2 q3, k4.same x (fun h => h.elim) q1]⟩
  have PB6 : Parts (fun x => Z x ∨ Zn4 x) H6 B pa4 pn4 pc4 ca4 cn4 cc4 oa4 on4 oc4 := P4.ext fun x hx => ⟨hx, by
    obtain ⟨q1, q2, q3⟩ := zB x hx
    rw [s6 x q2 q3]⟩
  have zA6 : ∀ x, (Z x ∨ Zn3 x) → H6 x ≠ none := fun x hx => by
    obtain ⟨q1, q2, q3⟩ := zA x hx
    rw [s6 x q2 q3]; exact k4.live x q1
  have zB6 : ∀ x, (Z x ∨ Zn4 x) → H6 x ≠ none := fun x hx => by
    obtain ⟨q1, q2, q3⟩ := zB x hx
    rw [s6 x q2 q3]; exact q1
  have y6 : ∀ j : Nat, H6.cell ⟨a2, j, none⟩ = (attG A pa3 pn3 pc3 ca3 cn3 cc3 oa3 on3 oc3)[j]? := fun j => by rw [bA6.cell]; simp
  refine ⟨_, y6 0, _, _, _, y6 1, _, y6 2, _, y6 3, _, y6 4, _, y6 5, _, y6 6, _, y6 7, _, y6 8, _, y6 9, _, y6 10, _, _, _, y6 11, _, _, _, y6 12, ?_⟩
  refine (copy_run zA6 (sim_close PA6) l_a.p l_a.s l_a.o l_a.d l_a.c).mono fun v H7 hm => ?_
  obtain ⟨k7, Zc, pa5, pn5, pc5, ca5, cn5, cc5, oa5, on5, oc5, rfl, hf7, P7⟩ := hm
  refine ⟨_, pa5, pn5, pc5, _, _, _, _, _, _, _, _, _, ca5, cn5, cc5, oa5, on5, oc5, rfl, newB fun c5 H8 f8 k8 b8 => ?_⟩
  refine stAll_blk (b := c5) (attG A pa5 pn5 pc5 ca5 cn5 cc5 oa5 on5 oc5) 0 [] zrA H8 b8 rfl rfl attG_plain fun H9 b9 o9 => ?_
  have b9 : Blk H9 c5 T_api_Attrs ⟨attG A pa5 pn5 pc5 ca5 cn5 cc5 oa5 on5 oc5⟩ := b9
  have k79 : Keep Nil H7 H9 := keep0 k8 (keep_box b9 o9) fun x hx => by subst hx; exact f8
  have k69 : Keep Nil H6 H9 := k7.trans k79
  have k09 := k06.trans k69
  have bA9 : Blk H9 a2 T_api_Attrs ⟨attG A pa3 pn3 pc3 ca3 cn3 cc3 oa3 on3 oc3⟩ := k69.blk bA6 fun h => h.elim
  have bB9 : Blk H9 b3 T_api_Attrs ⟨attG B pa4 pn4 pc4 ca4 cn4 cc4 oa4 on4 oc4⟩ := k69.blk bB6 fun h => h.elim
  have PA : ∀ {Hx}, Keep Nil H9 Hx → Parts (fun x => Z x ∨ Zn3 x) Hx A pa3 pn3 pc3 ca3 cn3 cc3 oa3 on3 oc3 := fun k => PA6.ext fun x hx => ⟨hx, (k69.trans k).same x (fun h => h.elim) (zA6 x hx)⟩
  have PB : ∀ {Hx}, Keep Nil H9 Hx → Parts (fun x => Z x ∨ Zn4 x) Hx B pa4 pn4 pc4 ca4 cn4 cc4 oa4 on4 oc4 := fun k => PB6.ext fun x hx => ⟨hx, (k69.trans k).same x (fun h => h.elim) (zB6 x hx)⟩
  have zC7 : ∀ x, Zc x → H7 x ≠ none := fun x hx => (hf7.fresh x hx).2.1
  have PC : ∀ {Hx}, Keep Nil H9 Hx → Parts Zc Hx A pa5 pn5 pc5 ca5 cn5 cc5 oa5 on5 oc5 := fun k => P7.ext fun x hx => ⟨hx, (k79.trans k).same x (fun h => h.elim) (zC7 x hx)⟩
  have zA9 : ∀ x, (Z x ∨ Zn3 x) → H9 x ≠ none := fun x hx => k69.live x (zA6 x hx)
  have zB9 : ∀ x, (Z x ∨ Zn4 x) → H9 x ≠ none := fun x hx => k69.live x (zB6 x hx)
  have yA9 : ∀ j : Nat, H9.cell ⟨a2, j, none⟩ = (attG A pa3 pn3 pc3 ca3 cn3 cc3 oa3 on3 oc3)[j]? := fun j => by rw [bA9.cell]; simp
  have yB9 : ∀ j : Nat, H9.cell ⟨b3, j, none⟩ = (attG B pa4 pn4 pc4 ca4 cn4 cc4 oa4 on4 oc4)[j]? := fun j => by rw [bB9.cell]; simp
  have hl9 : ∀ x ∈ [b3, a2], H9 x ≠ none := fun x hx => by
    simp only [List.mem_cons, List.not_mem_nil, or_false] at hx
    rcases hx with rfl | rfl
    · exact bB9.some
    · exact bA9.some
  refine ⟨[b3, a2], ex_of hl9, _, yA9 0, _, _, _, yA9 1, _, yA9 2, _, yA9 3, _, yA9 4, _, yA9 5, _, yA9 6, _, yA9 7, _, yA9 8, _, yA9 9, _, yA9 10, _, _, _, yA9 11, _, _, _, yA9 12, by simp, _, yB9 0, _, _, _, yB9 1, _, yB9 2, _, yB9 3, _, yB9 4, _, yB9 5, _, yB9 6, _, yB9 7, _, yB9 8, _, yB9 9, _, yB9 10, _, _, _, yB9 11, _, _, _, yB9 12, by simp, _, yA9 0, _, _, _, yA9 1, _, yA9 2, _, yA9 3, _, yA9 4, _, yA9 5, _, yA9 6, _, yA9 7, _, yA9 8, _, yA9 9, _, yA9 10, _, _, _, yA9 11, _, _, _, yA9 12, by simp, _, yB9 0, _, _, _, yB9 1, _, yB9 2, _, yB9 3, _, yB9 4, _, yB9 5, _, yB9 6, _, yB9 7, _, yB9 8, _, yB9 9, _, yB9 10, _, _, _, yB9 11, _, _, _, yB9 12, ?_⟩
  have big : ∀ {q : Attrs}, Lim q → ∀ s ∈ q.path, s.2.length ≤ 35184372088736 := fun l s hs => by have := l.s s hs; omega
  refine (few_run zA9 (hy.keep k09) (PA (Keep.refl _ _)) (big l_a)).mono fun v H10 hm => ?_
  obtain ⟨k10, Zn10, pa6, pn6, pc6, ca6, cn6, cc6, oa6, on6, oc6, rfl, hf10, P10⟩ := hm
  refine ⟨_, pa6, pn6, pc6, _, _, _, _, _, _, _, _, _, ca6, cn6, cc6, oa6, on6, oc6, rfl, kept_of hl9 k10, ?_⟩
  refine (few_run (fun x hx => k10.live x (zB9 x hx)) (hy.keep (k09.trans k10)) (PB k10) (big l_b)).mono fun v H11 hm => ?_
  obtain ⟨k11, Zn11, pa7, pn7, pc7, ca7, cn7, cc7, oa7, on7, oc7, rfl, hf11, P11⟩ := hm
  have k911 := k10.trans k11
  refine ⟨_, pa7, pn7, pc7, _, _, _, _, _, _, _, _, _, ca7, cn7, cc7, oa7, on7, oc7, rfl, kept_of hl9 k911, ?_⟩
  rw [ffa] at P10
  rw [ffb] at P11
  simp only [ffa, ffb]
  have z10 : ∀ x, ((Z x ∨ Zn3 x) ∨ Zn10 x) → H10 x ≠ none := fun x hx => hx.elim (fun h => k10.live x (zA9 x h)) fun h => (hf10 x h).2.1
  have z11 : ∀ x, ((Z x ∨ Zn4 x) ∨ Zn11 x) → H11 x ≠ none := fun x hx => hx.elim (fun h => k911.live x (zB9 x h)) fun h => (hf11 x h).2.1
  refine (same_run (Z := fun x => ((Z x ∨ Zn3 x) ∨ Zn10 x) ∨ ((Z x ∨ Zn4 x) ∨ Zn11 x)) (fun x hx => hx.elim (fun h => k11.live x (z10 x h)) (z11 x)) (hy.keep (k09.trans k911)) (P10.ext fun x hx => ⟨.inl hx, k11.same x (fun h => h.elim) (z10 x hx)⟩) (P11.ext fun x hx => ⟨.inr hx, rfl⟩) l_a l_b).mono fun v H12 hm => ?_
  obtain ⟨k12, rfl⟩ := hm
  have k912 := k911.trans k12
  refine ⟨_, rfl, kept_of hl9 k912, ?_⟩
  refine (rsame_run (Z := fun x => (Z x ∨ Zn3 x) ∨ (Z x ∨ Zn4 x)) (fun x hx => hx.elim (fun h => k912.live x (zA9 x h)) fun h => k912.live x (zB9 x h)) (hy.keep (k09.trans k912)) ((PA k912).ext fun x hx => ⟨.inl hx, rfl⟩) ((PB k912).ext fun x hx => ⟨.inr hx, rfl⟩) l_a l_b).mono fun v H13 hm => ?_
  obtain ⟨k13, rfl⟩ := hm
  have k913 := k912.trans k13
  refine ⟨_, rfl, kept_of hl9 k913, ifF (by simp) ?_⟩
  have bC : ∀ {Hx}, Keep Nil H9 Hx → Blk Hx c5 T_api_Attrs ⟨attG A pa5 pn5 pc5 ca5 cn5 cc5 oa5 on5 oc5⟩ := fun k => k.blk b9 fun h => h.elim
  have bAx : ∀ {Hx}, Keep Nil H9 Hx → Blk Hx a2 T_api_Attrs ⟨attG A pa3 pn3 pc3 ca3 cn3 cc3 oa3 on3 oc3⟩ := fun k => k.blk bA9 fun h => h.elim
  have yC : ∀ {Hx}, Keep Nil H9 Hx → ∀ j : Nat, Hx.cell ⟨c5, j, none⟩ = (attG A pa5 pn5 pc5 ca5 cn5 cc5 oa5 on5 oc5)[j]? := fun k j => by rw [(bC k).cell]; simp
  have yAx : ∀ {Hx}, Keep Nil H9 Hx → ∀ j : Nat, Hx.cell ⟨a2, j, none⟩ = (attG A pa3 pn3 pc3 ca3 cn3 cc3 oa3 on3 oc3)[j]? := fun k j => by rw [(bAx k).cell]; simp
  have zC9 : ∀ x, Zc x → H9 x ≠ none := fun x hx => k79.live x (zC7 x hx)
  have zCA : ∀ {Hx}, Keep Nil H9 Hx → ∀ x, (Zc x ∨ (Z x ∨ Zn3 x)) → Hx x ≠ none := fun k x hx => k.live x (hx.elim (zC9 x) (zA9 x))
  have yC13 := yC k913
  have yA13 := yAx k913
  refine ⟨_, yC13 0, _, _, _, yC13 1, _, yC13 2, _, yC13 3, _, yC13 4, _, yC13 5, _, yC13 6, _, yC13 7, _, yC13 8, _, yC13 9, _, yC13 10, _, _, _, yC13 11, _, _, _, yC13 12, _, yA13 0, _, _, _, yA13 1, _, yA13 2, _, yA13 3, _, yA13 4, _, yA13 5, _, yA13 6, _, yA13 7, _, yA13 8, _, yA13 9, _, yA13 10, _, _, _, yA13 11, _, _, _, yA13 12, ?_⟩
  refine (rsame_run (Z := fun x => Zc x ∨ (Z x ∨ Zn3 x)) (zCA k913) (hy.keep (k09.trans k913)) ((PC k913).ext fun x hx => ⟨.inl hx, rfl⟩) ((PA k913).ext fun x hx => ⟨.inr hx, rfl⟩) l_a l_a).mono fun v H14 hm => ?_
  obtain ⟨k14, rfl⟩ := hm
  have k914 := k913.trans k14
  rw [sameA_refl]
  refine ⟨_, rfl, kept_of hl9 k914, ifF rfl ?_⟩
  have yC14 := yC k914
  have yA14 := yAx k914
  refine ⟨_, yC14 0, _, _, _, yC14 1, _, yC14 2, _, yC14 3, _, yC14 4, _, yC14 5, _, yC14 6, _, yC14 7, _, yC14 8, _, yC14 9, _, yC14 10, _, _, _, yC14 11, _, _, _, yC14 12, _, yA14 0, _, _, _, yA14 1, _, yA14 2, _, yA14 3, _, yA14 4, _, yA14 5, _, yA14 6, _, yA14 7, _, yA14 8, _, yA14 9, _, yA14 10, _, _, _, yA14 11, _, _, _, yA14 12, ?_⟩
  refine (same_run (Z := fun x => Zc x ∨ (Z x ∨ Zn3 x)) (zCA k914) (hy.keep (k09.trans k914)) ((PC k914).ext fun x hx => ⟨.inl hx, rfl⟩) ((PA k914).ext fun x hx => ⟨.inr hx, rfl⟩) l_a l_a).mono fun v H15 hm => ?_
  obtain ⟨k15, rfl⟩ := hm
  have k915 := k914.trans k15
  rw [sameA_refl]
  refine ⟨_, rfl, ?_⟩
  refine j0_run (end_of (k09.trans k915) (bAx k915) (bC k915) (PA k915) (fun m hm => k915.live m (zA9 m hm)) (fun m hm => ?_) (PC k915)) hy hR
  obtain ⟨q1, T, c, q2, q3⟩ := hf7 m hm
  refine ⟨k06.free q1, fun h => zA6 m h q1, fun e => bA6.some (e ▸ q1), fun e => q2.some (e ▸ f8), T, c, (k79.trans k915).blk q2 fun h => h.elim⟩

end Go.Proofs.Ytomdgakmkihfhaa
