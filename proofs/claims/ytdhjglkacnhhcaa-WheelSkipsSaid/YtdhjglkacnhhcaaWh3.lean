/-
  Layer 4: a timer is dropped; a timer is set.
-/
import Derived.Test.YtdhjglkacnhhcaaWh2
set_option linter.all false
set_option maxRecDepth 100000
namespace Go.Proofs.Ytdhjglkacnhhcaa
open Go.Sh Go.Wheel

theorem cons_wo {L : List Ent} (hd : L.Pairwise fun a b => a.1 ≠ b.1) {e : Ent} (he : e ∈ L) : (e :: wo L e.1).Perm L := by
  induction L with
  | nil => cases he
  | cons x L ih =>
    rw [List.pairwise_cons] at hd
    unfold wo
    rcases List.mem_cons.1 he with rfl | he
    · rw [List.filter_cons_of_neg (by simp)]
      have : L.filter (fun x => decide (x.1 ≠ e.1)) = L := by
        rw [List.filter_eq_self]
        intro y hy
        exact decide_eq_true (fun h => hd.1 y hy h.symm)
      rw [this]
    · have hne := hd.1 e he
      rw [List.filter_cons_of_pos (by simpa using hne)]
      exact (List.Perm.swap x e _).trans ((ih hd.2 he).cons x)
theorem up_dist {L : List Ent} (h : Up L) : L.Pairwise fun a b => a.1 ≠ b.1 := h.imp fun h => by omega
theorem dist_perm {A B : List Ent} (h : A.Perm B) (hd : B.Pairwise fun a b => a.1 ≠ b.1) : A.Pairwise fun a b => a.1 ≠ b.1 :=
  (h.pairwise_iff (R := fun a b : Ent => a.1 ≠ b.1) fun h => Ne.symm h).2 hd

section
variable {H H' : Heap} {b mb ck : Nat} {L : List Ent} {now : Int} {c : Array Value} {es : List Kv} {R : Nat → Rw}

theorem spoke_lt {t : Int} : (t % 64).toNat < 64 := by
  have := Int.emod_nonneg t (b := 64) (by omega)
  have := Int.emod_lt_of_pos t (b := 64) (by omega)
  omega
theorem spoke_eq {t : Int} {i : Nat} : t % 64 = (i : Int) ↔ i = (t % 64).toNat := by
  have := Int.emod_nonneg t (b := 64) (by omega)
  omega

theorem WRep.remove (h : WRep H b L now c mb es ck R) {e : Ent} (he : e ∈ L) {s : Nat} (hs : s = (e.2 % 64).toNat) {c' : Array Value} {r : Rw}
    (hb : Blk H' b T_wheel_Wheel c') (hc : c' = c.setIfInBounds s (.slice r.a r.xs.length r.cap)) (hm : MapAt H' mb (eraK e.1 es) ck)
    (hr : Sh.Own emp H' r.a r.xs.length r.cap 2 T_wheel_timer (prs r.xs)) (ha : r.a = (R s).a) (hp : (e :: r.xs).Perm (R s).xs)
    (ho : ∀ i, i < 64 → i ≠ s → ∀ x, (R i).a = some ⟨x, 0, none⟩ → H' x = H x) : WRep H' b (wo L e.1) now c' mb (eraK e.1 es) ck (fun i => if i = s then r else R i) := by
  have hs64 : s < 64 := by rw [hs]; exact spoke_lt
  have hcw := cons_wo (up_dist h.up) he
  have hsz := h.size
  refine { up := up_wo h.up _, len := Nat.le_trans (len_wo_le _ _) h.len, pos := fun x hx => h.pos x (mem_wo.1 hx).1, blk := hb, size := by rw [hc]; simp [hsz], due := ?_, now := ?_, made := ?_, map := hm, born := fun x hx => h.born x (era_mem hx), uniq := fun x hx y hy => h.uniq x (era_mem hx) y (era_mem hy), perm := era_perm h.perm h.up _, cell := ?_, row := ?_, spoke := ?_, apart := ?_ }
  · rw [hc, Array.getElem?_setIfInBounds_ne (by omega)]; exact h.due
  · rw [hc, Array.getElem?_setIfInBounds_ne (by omega)]; exact h.now
  · rw [hc, Array.getElem?_setIfInBounds_ne (by omega)]; exact h.made
  · intro i hi
    by_cases ei : i = s
    · subst ei
      simp only [if_true]
      rw [hc, Array.getElem?_setIfInBounds_self_of_lt (by omega)]
    · simp only [if_neg ei]
      rw [hc, Array.getElem?_setIfInBounds_ne (fun x => ei x.symm)]; exact h.cell i hi
  · intro i hi
    by_cases ei : i = s
    · subst ei; simp only [if_true]; exact hr
    · simp only [if_neg ei]
      have := h.row i hi
      refine ⟨this.1, this.2.1, ?_⟩
      rcases this.2.2 with h3 | ⟨m, rest, e1, e2, e3, e4⟩
      · exact .inl h3
      · exact .inr ⟨m, rest, e1, e2, e3.same (ho i hi ei m e1), e4⟩
  · intro i hi
    have hf := hcw.filter fun x => decide (x.2 % 64 = (i : Int))
    by_cases ei : i = s
    · subst ei
      simp only [if_true]
      rw [List.filter_cons_of_pos (by simpa using spoke_eq.2 hs)] at hf
      exact (hp.trans ((h.spoke i hi).trans hf.symm)).cons_inv
    · simp only [if_neg ei]
      rw [List.filter_cons_of_neg (by simpa using fun x => ei ((spoke_eq.1 x).trans hs.symm))] at hf
      exact (h.spoke i hi).trans hf.symm
  · intro i j hi hj x h1 h2
    by_cases ei : i = s <;> by_cases ej : j = s
    · rw [ei, ej]
    · subst ei; simp only [if_true, if_neg ej] at h1 h2; rw [ha] at h1; exact h.apart i j hi hj x h1 h2
    · subst ej; simp only [if_true, if_neg ei] at h1 h2; rw [ha] at h2; exact h.apart i j hi hj x h1 h2
    · simp only [if_neg ei, if_neg ej] at h1 h2; exact h.apart i j hi hj x h1 h2
theorem ft_same {s : Nat} {r : Rw} (hs : s < 64) (ha : r.a = (R s).a) : Ft b mb (fun i => if i = s then r else R i) = Ft b mb R := by
  funext x
  apply propext
  unfold Ft
  have : ∀ i, (if i = s then r else R i).a = (R i).a := fun i => by
    by_cases e : i = s
    · subst e; simp only [if_true]; exact ha
    · simp only [if_neg e]
  simp only [this]

theorem row_len (h : WRep H b L now c mb es ck R) {i : Nat} (hi : i < 64) : (R i).xs.length ≤ 256 := by
  rw [(h.spoke i hi).length_eq]
  exact Nat.le_trans (List.length_filter_le _ _) h.len
theorem row_mem (h : WRep H b L now c mb es ck R) {e : Ent} (he : e ∈ L) : e ∈ (R (e.2 % 64).toNat).xs := by
  rw [(h.spoke _ spoke_lt).mem_iff, List.mem_filter]
  exact ⟨he, by simpa using spoke_eq.2 rfl⟩

theorem drop_spec (h : WRep H b L now c mb es ck R) {k t : Int} (hd : dueL k L = some t) :
    FnW Try.prog f_wheel_Wheel_drop ⟨[.pointer (some ⟨b, 0, none⟩), .int .i64 k]⟩ H fun v H' => v = .tuple ⟨[]⟩ ∧ Keep (Ft b mb R) H H' ∧ ∃ c' es' R', WRep H' b (wo L k) now c' mb es' ck R' ∧ Ft b mb R' = Ft b mb R := by
  have he := due_mem hd
  have hs64 : (t % 64).toNat < 64 := spoke_lt
  refine wheel_Wheel_drop_sh b k ?_
  unfold wheel_Wheel_drop_p
  refine NewW.intro fun kb hkb => ?_
  have k1 : Keep Nil H (H.upd kb (.cells ⟨[.int .i64 k]⟩ T_int (0, 0))) := (Keep.refl _ _).new hkb
  have hK : Blk (H.upd kb (.cells ⟨[.int .i64 k]⟩ T_int (0, 0))) kb T_int ⟨[.int .i64 k]⟩ := Blk.upd_eq
  generalize H.upd kb (.cells ⟨[.int .i64 k]⟩ T_int (0, 0)) = H1 at k1 hK
  have h1 := h.keep k1 fun _ _ h => h
  refine ⟨_, by rw [h1.blk.cell]; exact h1.due, k, by rw [hK.cell]; rfl, LkI mapTy h1.map ?_⟩
  rw [getK_due h.perm h.up, hd]
  refine ⟨t, rfl, (spoke_spec (h.pos _ he).1).mono ?_⟩
  rintro _ _ ⟨rfl, rfl⟩
  refine ⟨_, rfl, NilP.intro _ rfl ?_⟩
  generalize hsd : (t % 64).toNat = s at *
  refine ⟨_, _, _, by rw [h1.blk.cell]; exact h1.cell s hs64, ?_⟩
  refine (delF_spec (h1.row s hs64) (by have := row_len h hs64; omega) hK rfl).mono ?_
  rintro _ H4 ⟨k4, ys, rfl, rfl, ho4⟩
  refine ⟨_, _, _, rfl, NilP.intro _ rfl ?_⟩
  have hrb : ∀ x, (R s).a = some ⟨x, 0, none⟩ → x ≠ b ∧ x ≠ mb := fun x hx => h.ne_row hs64 hx
  have hB4 : Blk H4 b T_wheel_Wheel c := k4.blk h1.blk fun e => (hrb b e).1 rfl
  have hM4 : MapAt H4 mb es ck := h1.map.keep k4 fun e => (hrb mb e).2 rfl
  have hkbb : kb ≠ b := fun e => by subst e; exact h.blk.some hkb
  have hkbm : kb ≠ mb := fun e => by subst e; exact h.map.some hkb
  have hkbr : ∀ i, i < 64 → (R i).a ≠ some ⟨kb, 0, none⟩ := fun i hi e => by
    obtain ⟨_, hb⟩ := (h.row i hi).live e; exact hb.some hkb
  have hK4 : Blk H4 kb T_int ⟨[.int .i64 k]⟩ := k4.blk hK fun e => hkbr s hs64 e
  refine StCell.blk hB4 (by rw [h.size]; omega) rfl ?_
  have k5 : Keep (fun x => x = b) H4 (H4.upd b (.cells (c.setIfInBounds s (.slice (R s).a ((R s).xs.filter fun e => decide (e.1 ≠ k)).length (R s).cap)) T_wheel_Wheel (0, 0))) := (Keep.refl _ _).upd (.inl rfl)
  have hB5 : Blk (H4.upd b (.cells (c.setIfInBounds s (.slice (R s).a ((R s).xs.filter fun e => decide (e.1 ≠ k)).length (R s).cap)) T_wheel_Wheel (0, 0))) b T_wheel_Wheel (c.setIfInBounds s (.slice (R s).a ((R s).xs.filter fun e => decide (e.1 ≠ k)).length (R s).cap)) := Blk.upd_eq
  generalize H4.upd b (.cells (c.setIfInBounds s (.slice (R s).a ((R s).xs.filter fun e => decide (e.1 ≠ k)).length (R s).cap)) T_wheel_Wheel (0, 0)) = H5 at k5 hB5
  have hM5 : MapAt H5 mb es ck := hM4.keep k5 fun e => h.ne_mb e.symm
  refine ⟨_, by rw [hB5.cell, Array.getElem?_setIfInBounds_ne (by omega)]; exact h.due, k, by rw [(k5.blk hK4 hkbb).cell]; rfl, DelI mapTy hM5 fun H6 h6 => ?_⟩
  have k6 : Keep (fun x => x = mb) H5 H6 := by rw [h6]; exact (Keep.refl _ _).upd (.inl rfl)
  have hM6 : MapAt H6 mb (eraK k es) ck := by rw [h6]; exact upd_eq
  have kAll : Keep (Ft b mb R) H H6 := by
    refine (((k1.mono fun _ h => h.elim).trans (k4.mono fun x hx => ?_)).trans (k5.mono fun x hx => .inl hx)).trans (k6.mono fun x hx => .inr (.inl hx))
    exact .inr (.inr ⟨s, hs64, hx⟩)
  have hxs : ((k, t) :: (R s).xs.filter fun e => decide (e.1 ≠ k)).Perm (R s).xs := by
    refine cons_wo (dist_perm (h.spoke s hs64) (up_dist (up_filter h.up _))) (e := (k, t)) ?_
    have := row_mem h he
    simp only at this
    rw [hsd] at this; exact this
  have hrow : Sh.Own emp H6 (R s).a ((R s).xs.filter fun e => decide (e.1 ≠ k)).length (R s).cap 2 T_wheel_timer (prs ((R s).xs.filter fun e => decide (e.1 ≠ k))) :=
    (ho4.keep k5 fun x hx e => (hrb x hx).1 e).keep k6 fun x hx e => (hrb x hx).2 e
  have hother : ∀ i, i < 64 → i ≠ s → ∀ x, (R i).a = some ⟨x, 0, none⟩ → H6 x = H x := by
    intro i hi hne x hx
    obtain ⟨_, hb⟩ := (h.row i hi).live hx
    have hx0 : H x ≠ none := hb.some
    have e1 := k1.same x (fun h => h) hx0
    have e4 := k4.same x (fun e => hne (h.apart i s hi hs64 x hx e)) (k1.live x hx0)
    have e5 := k5.same x (h.ne_row hi hx).1 (k4.live x (k1.live x hx0))
    have e6 := k6.same x (h.ne_row hi hx).2 (k5.live x (k4.live x (k1.live x hx0)))
    rw [e6, e5, e4, e1]
  have hW := h.remove (e := (k, t)) he (s := s) hsd.symm (r := ⟨(R s).a, (R s).cap, (R s).xs.filter fun e => decide (e.1 ≠ k)⟩) (k6.blk hB5 fun e => h.ne_mb e) rfl hM6 hrow rfl hxs hother
  refine fun H2 hsh => ⟨rfl, shutS kAll hsh, _, _, _, hW.shut hsh, ft_same hs64 rfl⟩

theorem WRep.add (h : WRep H b L now c mb es ck R) {k t : Int} (hk : dueL k L = none) (hlen : L.length < 256) (ht : 0 ≤ t ∧ t ≤ maxT) {s : Nat} (hs : s = (t % 64).toNat) {c' : Array Value} {r : Rw}
    (hb : Blk H' b T_wheel_Wheel c') (hc : c' = c.setIfInBounds s (.slice r.a r.xs.length r.cap)) (hm : MapAt H' mb (es ++ [(k, t, ck)]) (ck + 1))
    (hr : Sh.Own emp H' r.a r.xs.length r.cap 2 T_wheel_timer (prs r.xs)) (ha : ∀ x, r.a = some ⟨x, 0, none⟩ → (R s).a = some ⟨x, 0, none⟩ ∨ H x = none) (hp : r.xs = (R s).xs ++ [(k, t)])
    (ho : ∀ i, i < 64 → i ≠ s → ∀ x, (R i).a = some ⟨x, 0, none⟩ → H' x = H x) : WRep H' b (insL L k t) now c' mb (es ++ [(k, t, ck)]) (ck + 1) (fun i => if i = s then r else R i) := by
  have hs64 : s < 64 := by rw [hs]; exact spoke_lt
  have hsz := h.size
  have hip := ins_perm L k t
  rw [wo_none hk] at hip
  refine { up := up_ins h.up _ _, len := by rw [hip.length_eq]; simp; omega, pos := fun x hx => ?_, blk := hb, size := by rw [hc]; simp [hsz], due := ?_, now := ?_, made := ?_, map := hm, born := fun x hx => ?_, uniq := fun x hx y hy => ?_, perm := ?_, cell := ?_, row := ?_, spoke := ?_, apart := ?_ }
  · rcases mem_ins.1 hx with rfl | hx
    · exact ht
    · exact h.pos x hx.1
  · rw [hc, Array.getElem?_setIfInBounds_ne (by omega)]; exact h.due
  · rw [hc, Array.getElem?_setIfInBounds_ne (by omega)]; exact h.now
  · rw [hc, Array.getElem?_setIfInBounds_ne (by omega)]; exact h.made
  · rcases List.mem_append.1 hx with hx | hx
    · have := h.born x hx; omega
    · simp only [List.mem_singleton] at hx; subst hx; simp
  · intro e
    rcases List.mem_append.1 hx with hx | hx <;> rcases List.mem_append.1 hy with hy | hy
    · exact h.uniq x hx y hy e
    · simp only [List.mem_singleton] at hy; subst hy; have := h.born x hx; simp only at e; omega
    · simp only [List.mem_singleton] at hx; subst hx; have := h.born y hy; simp only at e; omega
    · simp only [List.mem_singleton] at hx hy; rw [hx, hy]
  · rw [List.map_append]
    refine List.Perm.trans ?_ hip.symm
    refine (List.perm_append_comm).trans ?_
    exact h.perm.cons _
  · intro i hi
    by_cases ei : i = s
    · subst ei
      simp only [if_true]
      rw [hc, Array.getElem?_setIfInBounds_self_of_lt (by omega)]
    · simp only [if_neg ei]
      rw [hc, Array.getElem?_setIfInBounds_ne (fun x => ei x.symm)]; exact h.cell i hi
  · intro i hi
    by_cases ei : i = s
    · subst ei; simp only [if_true]; exact hr
    · simp only [if_neg ei]
      have := h.row i hi
      refine ⟨this.1, this.2.1, ?_⟩
      rcases this.2.2 with h3 | ⟨m, rest, e1, e2, e3, e4⟩
      · exact .inl h3
      · exact .inr ⟨m, rest, e1, e2, e3.same (ho i hi ei m e1), e4⟩
  · intro i hi
    have hf := hip.filter fun x => decide (x.2 % 64 = (i : Int))
    by_cases ei : i = s
    · subst ei
      simp only [if_true]
      rw [List.filter_cons_of_pos (by simpa using spoke_eq.2 hs)] at hf
      rw [hp]
      refine (List.perm_append_comm).trans (List.Perm.trans ?_ hf.symm)
      exact (h.spoke i hi).cons _
    · simp only [if_neg ei]
      rw [List.filter_cons_of_neg (by simpa using fun x => ei ((spoke_eq.1 x).trans hs.symm))] at hf
      exact (h.spoke i hi).trans hf.symm
  · have key : ∀ i x, i < 64 → (R i).a = some ⟨x, 0, none⟩ → r.a = some ⟨x, 0, none⟩ → i = s := by
      intro i x hi h1 h2
      rcases ha x h2 with h3 | h3
      · exact h.apart i s hi hs64 x h1 h3
      · obtain ⟨_, hb⟩ := (h.row i hi).live h1
        exact absurd h3 hb.some
    intro i j hi hj x h1 h2
    by_cases ei : i = s <;> by_cases ej : j = s
    · rw [ei, ej]
    · subst ei; simp only [if_true, if_neg ej] at h1 h2; exact (key j x hj h2 h1).symm
    · subst ej; simp only [if_true, if_neg ei] at h1 h2; exact key i x hi h1 h2
    · simp only [if_neg ei, if_neg ej] at h1 h2; exact h.apart i j hi hj x h1 h2
theorem ft_add {s : Nat} {r : Rw} (hs : s < 64) (ha : ∀ x, r.a = some ⟨x, 0, none⟩ → (R s).a = some ⟨x, 0, none⟩ ∨ H x = none) (x : Nat) (hx : Ft b mb (fun i => if i = s then r else R i) x) : Ft b mb R x ∨ H x = none := by
  rcases hx with h | h | ⟨i, hi, h⟩
  · exact .inl (.inl h)
  · exact .inl (.inr (.inl h))
  · by_cases e : i = s
    · subst e
      simp only [if_true] at h
      rcases ha x h with h | h
      · exact .inl (.inr (.inr ⟨i, hi, h⟩))
      · exact .inr h
    · simp only [if_neg e] at h; exact .inl (.inr (.inr ⟨i, hi, h⟩))

theorem set_j0 {H0 : Heap} {F : Nat → Prop} (h : WRep H b L now c mb es ck R) (h0 : 0 ≤ now) (k0 : Keep F H0 H) (hF : ∀ x, Ft b mb R x → F x) {k n : Int} (hn : mayB now n = true) (hk : dueL k L = none) (hlen : L.length < 256) :
    wheel_Wheel_Set_j0 b k n H fun v H1 => ∀ H2, Shut H0 H1 H2 → v = .int .i64 0 ∧ Keep F H0 H2 ∧ ∃ c' es' ck' R', WRep H2 b (insL L k (now + n)) now c' mb es' ck' R' ∧ ∀ x, Ft b mb R' x → F x ∨ H0 x = none := by
  unfold mayB maxT at hn
  simp only [Bool.and_eq_true, decide_eq_true_eq] at hn
  unfold wheel_Wheel_Set_j0
  refine ⟨now, by rw [h.blk.cell]; exact h.now, ?_⟩
  rw [wrap_id (by omega) (by omega)]
  have hs64 : ((now + n) % 64).toNat < 64 := spoke_lt
  refine (spoke_spec (by omega)).mono ?_
  rintro _ _ ⟨rfl, rfl⟩
  refine ⟨_, rfl, NilP.intro _ rfl ?_⟩
  generalize hsd : ((now + n) % 64).toNat = s at *
  refine ⟨_, _, _, by rw [h.blk.cell]; exact h.cell s hs64, ?_⟩
  refine NewW.intro fun v hv => ?_
  have kv : Keep Nil H (H.upd v (.cells ⟨[.int .i64 k, .int .i64 (now + n)]⟩ T_wheel_timer (0, 0))) := (Keep.refl _ _).new hv
  have hV : Blk (H.upd v (.cells ⟨[.int .i64 k, .int .i64 (now + n)]⟩ T_wheel_timer (0, 0))) v T_wheel_timer ⟨[.int .i64 k, .int .i64 (now + n)]⟩ := Blk.upd_eq
  generalize H.upd v (.cells ⟨[.int .i64 k, .int .i64 (now + n)]⟩ T_wheel_timer (0, 0)) = H6 at kv hV
  have h6 := h.keep kv fun _ _ h => h
  obtain ⟨it, hit, hsz, hby⟩ := row_timer.info
  have hlr := row_len h hs64
  refine own_append2 (H0 := emp) (S := fun _ => True) und_sl_timer und_sl_timer hit hsz hby (by omega) row_timer.zero rfl (h6.row s hs64) ⟨fun _ h => absurd trivial h, fun _ h => absurd rfl h⟩ (new := [.int .i64 k, .int .i64 (now + n)])
    (Reads.blk hV rfl fun j hj => by rw [Nat.zero_add]; simp) (by intro v hv; simp only [List.mem_cons, List.not_mem_nil, or_false] at hv; rcases hv with rfl | rfl <;> rfl) (by omega) fun a' cap' H7 _ ho7 hnew k7 _ => ?_
  refine ⟨_, _, _, rfl, NilP.intro _ rfl ?_⟩
  have hrb : ∀ x, (R s).a = some ⟨x, 0, none⟩ → x ≠ b ∧ x ≠ mb := fun x hx => h.ne_row hs64 hx
  have hB7 : Blk H7 b T_wheel_Wheel c := k7.blk h6.blk fun e => (hrb b e).1 rfl
  have hM7 : MapAt H7 mb es ck := h6.map.keep k7 fun e => (hrb mb e).2 rfl
  refine StCell.blk hB7 (by rw [h.size]; omega) rfl ?_
  have k8 : Keep (fun x => x = b) H7 (H7.upd b (.cells (c.setIfInBounds s (.slice a' ((R s).xs.length + 1) cap')) T_wheel_Wheel (0, 0))) := (Keep.refl _ _).upd (.inl rfl)
  have hB8 : Blk (H7.upd b (.cells (c.setIfInBounds s (.slice a' ((R s).xs.length + 1) cap')) T_wheel_Wheel (0, 0))) b T_wheel_Wheel (c.setIfInBounds s (.slice a' ((R s).xs.length + 1) cap')) := Blk.upd_eq
  generalize H7.upd b (.cells (c.setIfInBounds s (.slice a' ((R s).xs.length + 1) cap')) T_wheel_Wheel (0, 0)) = H8 at k8 hB8
  have hM8 : MapAt H8 mb es ck := hM7.keep k8 fun e => h.ne_mb e.symm
  refine ⟨_, by rw [hB8.cell, Array.getElem?_setIfInBounds_ne (by omega)]; exact h.due, ?_⟩
  refine (SemW.bind _ _ _ _).2 (MuI mapTy hM8 (by rw [getK_due h.perm h.up]; exact hk) fun H9 h9 => ?_)
  have k9 : Keep (fun x => x = mb) H8 H9 := by rw [h9]; exact (Keep.refl _ _).upd (.inl rfl)
  have hM9 : MapAt H9 mb (es ++ [(k, now + n, ck)]) (ck + 1) := by rw [h9]; exact upd_eq
  have ha : ∀ x, a' = some ⟨x, 0, none⟩ → (R s).a = some ⟨x, 0, none⟩ ∨ H x = none := fun x hx => (hnew x hx).imp id fun h => kv.free h
  have ha' : ∀ x, a' = some ⟨x, 0, none⟩ → x ≠ b ∧ x ≠ mb := fun x hx => by
    rcases ha x hx with h1 | h1
    · exact hrb x h1
    · exact ⟨fun e => by subst e; exact h.blk.some h1, fun e => by subst e; exact h.map.some h1⟩
  have kAll : Keep (Ft b mb R) H H9 := by
    refine (((kv.mono fun _ h => h.elim).trans (k7.mono fun x hx => ?_)).trans (k8.mono fun x hx => .inl hx)).trans (k9.mono fun x hx => .inr (.inl hx))
    exact .inr (.inr ⟨s, hs64, hx⟩)
  have hother : ∀ i, i < 64 → i ≠ s → ∀ x, (R i).a = some ⟨x, 0, none⟩ → H9 x = H x := by
    intro i hi hne x hx
    obtain ⟨_, hb⟩ := (h.row i hi).live hx
    have hx0 : H x ≠ none := hb.some
    have e1 := kv.same x (fun h => h) hx0
    have e4 := k7.same x (fun e => hne (h.apart i s hi hs64 x hx e)) (kv.live x hx0)
    have e5 := k8.same x (h.ne_row hi hx).1 (k7.live x (kv.live x hx0))
    have e6 := k9.same x (h.ne_row hi hx).2 (k8.live x (k7.live x (kv.live x hx0)))
    rw [e6, e5, e4, e1]
  have hpr : prs ((R s).xs ++ [(k, now + n)]) = prs (R s).xs ++ [.int .i64 k, .int .i64 (now + n)] := by rw [prs_append]; rfl
  have hrow : Sh.Own emp H9 a' ((R s).xs ++ [(k, now + n)]).length cap' 2 T_wheel_timer (prs ((R s).xs ++ [(k, now + n)])) := by
    rw [hpr, List.length_append]
    exact (ho7.keep k8 fun x hx e => (ha' x hx).1 e).keep k9 fun x hx e => (ha' x hx).2 e
  have hW := h.add hk hlen (t := now + n) (by unfold maxT; omega) (s := s) hsd.symm (r := ⟨a', cap', (R s).xs ++ [(k, now + n)]⟩) (k9.blk hB8 fun e => h.ne_mb e) (by simp) hM9 hrow ha rfl hother
  have kF : Keep F H0 H9 := k0.trans (kAll.mono hF)
  refine fun H2 hsh => ⟨rfl, shutS kF hsh, _, _, _, _, hW.shut hsh, fun x hx => ?_⟩
  rcases ft_add hs64 ha x hx with h1 | h1
  · exact .inl (hF x h1)
  · exact .inr (k0.free h1)

theorem set_spec (h : WRep H b L now c mb es ck R) (h0 : 0 ≤ now) (h1 : now ≤ maxT) (k n : Int) :
    FnW Try.prog f_wheel_Wheel_Set ⟨[.pointer (some ⟨b, 0, none⟩), .int .i64 k, .int .i64 n]⟩ H fun v H' => v = .int .i64 ((WM.mk L now).set k n).1 ∧ Keep (Ft b mb R) H H' ∧
      ∃ c' es' ck' R', WRep H' b ((WM.mk L now).set k n).2.L now c' mb es' ck' R' ∧ ∀ x, Ft b mb R' x → Ft b mb R x ∨ H x = none := by
  refine wheel_Wheel_Set_sh b k n ?_
  unfold wheel_Wheel_Set_p
  refine (may_spec h h0 h1 n).mono ?_
  rintro _ _ ⟨rfl, rfl⟩
  refine ⟨_, rfl, ?_⟩
  have hmay : (WM.mk L now).may n = mayB now n := rfl
  unfold WM.set
  rw [hmay]
  cases hm : mayB now n with
  | false =>
    simp only [Bool.false_eq_true, if_false]
    rw [show ((2 : Int) != 0) = true from rfl, IfB_true]
    exact fun H2 hs => ⟨rfl, shutS (Keep.refl _ _) hs, _, _, _, _, h.shut hs, fun x hx => .inl hx⟩
  | true =>
    simp only [if_true]
    rw [show ((0 : Int) != 0) = false from rfl, IfB_false]
    refine ⟨_, by rw [h.blk.cell]; exact h.due, LkI mapTy h.map ?_⟩
    rw [getK_due h.perm h.up]
    refine ⟨_, _, rfl, ?_⟩
    cases hd : dueL k L with
    | some t =>
      rw [show ((some t : Option Int).isSome) = true from rfl, IfB_true]
      refine (drop_spec h hd).mono ?_
      rintro _ H3 ⟨rfl, k3, c', es', R', hW, hft⟩
      refine ⟨rfl, ?_⟩
      have e1 : dueL k (wo L k) = none := by rw [due_wo L k k h.up, if_pos rfl]
      have e2 : insL (wo L k) k (now + n) = insL L k (now + n) := by unfold insL; rw [wo_none e1]
      have := set_j0 (F := Ft b mb R) hW h0 k3 (fun x hx => by rw [← hft]; exact hx) hm e1 (by have := len_wo h.up hd; have := h.len; omega)
      rw [e2] at this
      simpa using this
    | none =>
      rw [show ((none : Option Int).isSome) = false from rfl, IfB_false]
      refine ⟨_, by rw [h.blk.cell]; exact h.due, LenI mapTy h.map ?_⟩
      rw [len_es h]
      refine ⟨_, rfl, ?_⟩
      by_cases hl : L.length = 256
      · rw [show (((L.length : Nat) : Int) == 256) = true by simp [hl], IfB_true]
        simp only [hl, and_self, if_true]
        exact fun H2 hs => ⟨by simp, shutS (Keep.refl _ _) hs, _, _, _, _, by simpa using h.shut hs, fun x hx => .inl hx⟩
      · rw [beqI_ne (a := ((L.length : Nat) : Int)) (b := 256) (by omega), IfB_false]
        have := set_j0 (F := Ft b mb R) h h0 (Keep.refl _ _) (fun x hx => hx) hm hd (by have := h.len; omega)
        simpa [hl] using this

theorem stop_spec (h : WRep H b L now c mb es ck R) (k : Int) :
    FnW Try.prog f_wheel_Wheel_Stop ⟨[.pointer (some ⟨b, 0, none⟩), .int .i64 k]⟩ H fun v H' => v = .int .i64 ((WM.mk L now).stop k).1 ∧ Keep (Ft b mb R) H H' ∧
      ∃ c' es' ck' R', WRep H' b ((WM.mk L now).stop k).2.L now c' mb es' ck' R' ∧ ∀ x, Ft b mb R' x → Ft b mb R x ∨ H x = none := by
  refine wheel_Wheel_Stop_sh b k ?_
  unfold wheel_Wheel_Stop_p
  refine (is_spec h).mono ?_
  rintro _ _ ⟨rfl, rfl⟩
  refine ⟨_, rfl, ?_⟩
  simp only [Bool.not_true, IfB_false]
  refine ⟨_, by rw [h.blk.cell]; exact h.due, LkI mapTy h.map ?_⟩
  rw [getK_due h.perm h.up]
  refine ⟨_, _, rfl, ?_⟩
  unfold WM.stop
  cases hd : dueL k L with
  | none =>
    simp only [hd, Option.isSome_none, Bool.not_false, IfB_true, if_true]
    exact fun H2 hs => ⟨by simp, shutS (Keep.refl _ _) hs, _, _, _, _, h.shut hs, fun x hx => .inl hx⟩
  | some t =>
    simp only [hd, Option.isSome_some, Bool.not_true, IfB_false, reduceCtorEq, if_false]
    refine (drop_spec h hd).mono ?_
    rintro _ H3 ⟨rfl, k3, c', es', R', hW, hft⟩
    exact ⟨rfl, fun H2 hs => ⟨by simp, shutS k3 hs, _, _, _, _, hW.shut hs, fun x hx => .inl (by rw [← hft]; exact hx)⟩⟩
end
end Go.Proofs.Ytdhjglkacnhhcaa
