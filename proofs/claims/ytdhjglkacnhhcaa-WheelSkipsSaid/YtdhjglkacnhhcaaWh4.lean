/-
  Layer 4: what is due is taken out.
-/
import Derived.Test.YtdhjglkacnhhcaaWh3
set_option linter.all false
set_option maxRecDepth 100000
namespace Go.Proofs.Ytdhjglkacnhhcaa
open Go.Sh Go.Wheel

section
variable {H H' : Heap} {b mb ck : Nat} {L : List Ent} {now : Int} {c : Array Value} {es : List Kv} {R : Nat → Rw}

theorem del_spec {m cap : Nat} {xs : List Ent} (ho : Sh.Own emp H (some ⟨m, 0, none⟩) xs.length cap 2 T_wheel_timer (prs xs)) (hlen : xs.length ≤ 1000) {i : Nat} (hi : i < xs.length) :
    FnW Try.prog f_slices_Deleteasl_wheel_timer_wheel_timer ⟨[.slice (some ⟨m, 0, none⟩) xs.length cap, .int .i64 i, .int .i64 (i + 1 : Nat)]⟩ H fun v H' => Keep (fun x => (some ⟨m, 0, none⟩ : Option Addr) = some ⟨x, 0, none⟩) H H' ∧
      ∃ ys : List Ent, ys = xs.eraseIdx i ∧ v = .slice (some ⟨m, 0, none⟩) ys.length cap ∧ Sh.Own emp H' (some ⟨m, 0, none⟩) ys.length cap 2 T_wheel_timer (prs ys) := by
  have hcap := ho.le
  obtain ⟨_, c, hB, hs, hc⟩ := own_blk ho
  have hA := (prs_at rfl).1 hc
  refine slices_Deleteasl_wheel_timer_wheel_timer_sh (some ⟨m, 0, none⟩) xs.length cap i (i + 1 : Nat) ?_
  unfold slices_Deleteasl_wheel_timer_wheel_timer_p
  refine InC.intro xs.length rfl hcap (InC.intro (i + 1) rfl (by omega) (InC.intro i rfl (by omega) ?_))
  rw [beqI_ne (a := ((i : Nat) : Int)) (b := ((i + 1 : Nat) : Int)) (by omega), IfB_false]
  refine InC.intro i rfl (by omega) (InC.intro (i + 1) rfl (by omega) ?_)
  obtain ⟨it, hit, hsz, hby⟩ := row_timer.info
  have hpl := prs_length xs
  have hold : Reads H (some ⟨m, 0, none⟩) (i * 2) ((prs xs).take (i * 2)) := ho.reads.take (by omega)
  have hnew : Reads H (if cap = i + 1 then some ⟨m, 0, none⟩ else Option.map (fun a => Addr.add a ((i + 1) * 2)) (some ⟨m, 0, none⟩)) ((xs.length - (i + 1)) * 2) ((prs xs).drop ((i + 1) * 2)) := by
    by_cases e : cap = i + 1
    · rw [if_pos e, show xs.length - (i + 1) = 0 by omega, List.drop_of_length_le (by omega)]
      exact ⟨rfl, fun h => absurd h (by omega)⟩
    · rw [if_neg e, addr_map]
      refine Reads.blk hB (by rw [List.length_drop]; omega) fun j hj => ?_
      rw [List.getElem?_drop, hc _ (by omega)]
      congr 1; omega
  refine AppW.intro2 (n := xs.length - (i + 1)) (sLen := i) (sCap := cap) (sz := 2) (by_ := 16) und_sl_timer und_sl_timer hit hsz hby (by omega) row_timer.zero rfl hold hnew (.inl (by omega)) ?_ (fun h => absurd h (by omega))
  intro _
  refine ⟨rfl, c, _, hB, by simp only; omega, fun v hv => prs_plain xs v (List.mem_of_mem_drop hv), fun H1 hB1 ho1 => ?_⟩
  simp only at hB1
  have hget := fun j => putRow_get ((prs xs).drop ((i + 1) * 2)) c (0 + i * 2) j (by rw [List.length_drop]; omega)
  have hsz1 := putRow_size ((prs xs).drop ((i + 1) * 2)) c (0 + i * 2)
  generalize Go.Sh.putRow c (0 + i * 2) ((prs xs).drop ((i + 1) * 2)) = c1 at hB1 hget hsz1
  have k1 : Keep (fun x => (some ⟨m, 0, none⟩ : Option Addr) = some ⟨x, 0, none⟩) H H1 := ⟨fun x hx _ => ho1 x fun e => hx (by rw [e]), fun x hx => by
    by_cases e : x = m
    · subst e; exact hB1.some
    · rw [ho1 x e]; exact hx⟩
  refine ⟨_, _, _, rfl, InC.intro xs.length rfl hcap (InC.intro (i + (xs.length - (i + 1))) rfl (by omega) ?_)⟩
  rw [if_neg (by omega), addr_map]
  refine clearI hB1 (by omega) fun H2 c2 hB2 hs2 hc2 ho2 => ?_
  have k2 : Keep (fun x => (some ⟨m, 0, none⟩ : Option Addr) = some ⟨x, 0, none⟩) H H2 := k1.trans ⟨fun x hx _ => ho2 x fun e => hx (by rw [e]), fun x hx => by
    by_cases e : x = m
    · subst e; exact hB2.some
    · rw [ho2 x e]; exact hx⟩
  have hle : (xs.eraseIdx i).length = xs.length - 1 := List.length_eraseIdx_of_lt hi
  refine fun H3 hsh => ⟨shutS k2 hsh, _, rfl, by rw [hle]; congr 1; omega, ?_⟩
  refine shutO (own_of_blk rfl hB2 (by omega) (prs_length _) (by omega) ((prs_at rfl).2 fun t ht => ?_)) hsh
  rw [hle] at ht
  have e1 := hget (t * 2)
  have e2 := hget (t * 2 + 1)
  have d1 := hc2 (t * 2) (by omega)
  have d2 := hc2 (t * 2 + 1) (by omega)
  rw [List.length_drop, hpl] at e1 e2
  rw [List.getElem_eraseIdx]
  by_cases hti : t < i
  · rw [dif_pos hti]
    rw [if_neg (by omega)] at e1 e2
    obtain ⟨a1, a2⟩ := hA t (by omega)
    exact ⟨by rw [d1, e1]; exact a1, by rw [d2, e2]; exact a2⟩
  · rw [dif_neg hti]
    rw [if_pos (by omega), List.getElem?_drop] at e1 e2
    refine ⟨by rw [d1, e1, ← prs_get0 xs (i := t + 1) (by omega)]; congr 1; omega, by rw [d2, e2, ← prs_get1 xs (i := t + 1) (by omega)]; congr 1; omega⟩

theorem up_ext {A B : List Ent} (ha : Up A) (hb : Up B) (h : ∀ e, e ∈ A ↔ e ∈ B) : A = B := by
  have nd : ∀ {L : List Ent}, Up L → L.Nodup := fun h => h.imp fun h e => by subst e; omega
  exact List.Perm.eq_of_pairwise (le := fun a b : Ent => a.1 ≤ b.1) (fun a b ha' hb' h1 h2 => up_inj hb ((h a).1 ha') hb' (by omega)) (ha.imp fun h => by omega) (hb.imp fun h => by omega)
    ((List.perm_ext_iff_of_nodup (nd ha) (nd hb)).2 h)

theorem erase_perm : ∀ {l : List Ent} {k : Nat} (h : k < l.length), (l[k] :: l.eraseIdx k).Perm l
  | x :: l, 0, _ => List.Perm.refl _
  | x :: l, k + 1, h => by
    have := erase_perm (l := l) (k := k) (by simpa using h)
    simp only [List.getElem_cons_succ, List.eraseIdx_cons_succ]
    exact (List.Perm.swap x _ _).trans (this.cons x)
/-- What is due now is taken: its keys, rising. -/
theorem take_spec (hsort : ∀ {H1 H0 : Heap} {a : Option Addr} {cap : Nat} {zs : List Int}, zs.length ≤ 1000 → Sh.Own H0 H1 a zs.length cap 1 T_int (iv zs) →
      FnW Try.prog f_slices_Sortasl_int_int ⟨[.slice a zs.length cap]⟩ H1 fun v H' => v = .tuple ⟨[]⟩ ∧ Keep (fun x => a = some ⟨x, 0, none⟩) H1 H' ∧ ∃ ys : List Int, ys.Perm zs ∧ ys.Pairwise (· ≤ ·) ∧ Sh.Own H0 H' a zs.length cap 1 T_int (iv ys))
    (h : WRep H b L now c mb es ck R) (h0 : 0 ≤ now) (hall : ∀ e ∈ L, now ≤ e.2) :
    FnW Try.prog f_wheel_Wheel_take ⟨[.pointer (some ⟨b, 0, none⟩)]⟩ H fun v H' => Keep (Ft b mb R) H H' ∧ (∃ a cap, v = .slice a (keysAt L now).length cap ∧ Sh.Own H H' a (keysAt L now).length cap 1 T_int (iv (keysAt L now))) ∧
      ∃ c' es' R', WRep H' b (restAt L now) now c' mb es' ck R' ∧ Ft b mb R' = Ft b mb R := by
  refine wheel_Wheel_take_sh b ?_
  unfold wheel_Wheel_take_p
  refine ⟨now, by rw [h.blk.cell]; exact h.now, (spoke_spec h0).mono ?_⟩
  rintro _ _ ⟨rfl, rfl⟩
  refine ⟨_, rfl, ?_⟩
  have hs64 : (now % 64).toNat < 64 := spoke_lt
  have hsd : ∀ e ∈ L, e.2 = now → (e.2 % 64).toNat = (now % 64).toNat := fun e _ h => by rw [h]
  generalize hsg : (now % 64).toNat = s at *
  refine LoopI.intro (fun n st H3 => ∃ (k : Nat) (a : Option Addr) (cap : Nat) (rem Lc : List Ent) (c1 : Array Value) (es1 : List Kv) (R1 : Nat → Rw), st = ((a, rem.length, cap), (k : Int), ()) ∧ WRep H3 b Lc now c1 mb es1 ck R1 ∧ Ft b mb R1 = Ft b mb R ∧
      Keep (Ft b mb R) H H3 ∧ (rem ++ Lc).Perm L ∧ (∀ e ∈ rem, e.2 = now) ∧ k ≤ (R1 s).xs.length ∧ n = (R1 s).xs.length - k ∧ (∀ j (hj : j < (R1 s).xs.length), j < k → now < ((R1 s).xs[j]).2) ∧ Sh.Own H H3 a rem.length cap 1 T_int (iv (rem.map fun e : Ent => e.1)))
    (R s).xs.length ⟨0, none, 0, [], L, c, es, R, rfl, h, rfl, Keep.refl _ _, List.Perm.refl _, (fun _ h => by cases h), Nat.zero_le _, by omega, (fun j _ h => by omega), Sh.Own.nil⟩ ?_
  rintro n st H3 ⟨k, a, cap, rem, Lc, c1, es1, R1, rfl, h3, hft, kp, hperm, hrem, hk, rfl, hkept, ho⟩ g
  unfold wheel_Wheel_take_l2000000
  dsimp only
  have hlen := row_len h3 hs64
  have hremlen : rem.length ≤ 256 := by
    have h1 := hperm.length_eq
    have h2 := h.len
    simp only [List.length_append] at h1; omega
  have hmemL : ∀ e ∈ Lc, e ∈ L := fun e he => hperm.mem_iff.1 (List.mem_append_right _ he)
  have hapart : ∀ x, a = some ⟨x, 0, none⟩ → ¬ Ft b mb R x := fun x hx hf => h.live hf (ho.free hx)
  refine NilP.intro _ rfl ⟨_, _, _, by rw [h3.blk.cell]; exact h3.cell s hs64, ?_⟩
  by_cases hend : k = (R1 s).xs.length
  · rw [show (((k : Nat) : Int) == (((R1 s).xs.length : Nat) : Int)) = true by simp [hend], IfB_true]
    have hml : (rem.map fun e : Ent => e.1).length = rem.length := by simp
    have hs0 := hsort (zs := rem.map fun e : Ent => e.1) (by rw [hml]; omega) (by rw [hml]; exact ho)
    rw [hml] at hs0
    refine hs0.mono ?_
    rintro _ H4 ⟨rfl, k4, ys, hyp, hys, ho4⟩
    refine ⟨rfl, ?_⟩
    have h4 := h3.keep k4 fun x hx hax => hapart x hax (by rw [← hft]; exact hx)
    -- nothing that is due is left
    have hno : ∀ e ∈ Lc, e.2 ≠ now := by
      intro e he hen
      have h1 := row_mem h3 he
      rw [hsd e (hmemL e he) hen] at h1
      obtain ⟨j, hj, hje⟩ := List.mem_iff_getElem.1 h1
      have h2 := hkept j hj (by omega)
      rw [hje] at h2; omega
    have hrest : Lc = restAt L now := by
      refine up_ext h3.up (up_filter h.up _) fun e => ?_
      unfold restAt
      rw [List.mem_filter]
      constructor
      · intro he; exact ⟨hmemL e he, decide_eq_true (hno e he)⟩
      · rintro ⟨he, hne⟩
        have hne := of_decide_eq_true hne
        rcases List.mem_append.1 (hperm.mem_iff.2 he) with h1 | h1
        · exact absurd (hrem e h1) hne
        · exact h1
    have hkeys : (rem.map (·.1)).Perm (keysAt L now) := by
      unfold keysAt
      refine List.Perm.map _ ?_
      have h1 := hperm.filter fun e => decide (e.2 = now)
      rw [List.filter_append] at h1
      have h2 : rem.filter (fun e => decide (e.2 = now)) = rem := by rw [List.filter_eq_self]; intro e he; exact decide_eq_true (hrem e he)
      have h3' : Lc.filter (fun e => decide (e.2 = now)) = [] := by rw [List.filter_eq_nil_iff]; intro e he; simpa using hno e he
      rw [h2, h3', List.append_nil] at h1
      exact h1
    have hyeq : ys = keysAt L now := sorted_eq (hyp.trans hkeys) hys (up_keys h.up now)
    have hnl : rem.length = (keysAt L now).length := by rw [← hkeys.length_eq, hml]
    have k4' : Keep (Ft b mb R) H H4 := kp.then k4 fun x hx => .inr (ho.free hx)
    refine fun H2 hsh => ⟨shutS k4' hsh, ⟨a, cap, by rw [hnl], ?_⟩, c1, es1, R1, ?_, hft⟩
    · rw [← hnl, ← hyeq]; exact shutO ho4 hsh
    · rw [← hrest]; exact h4.shut hsh
  · rw [beqI_ne (a := ((k : Nat) : Int)) (b := (((R1 s).xs.length : Nat) : Int)) (by omega), IfB_false]
    have hlt : k < (R1 s).xs.length := by omega
    refine NilP.intro _ rfl ⟨_, _, _, by rw [h3.blk.cell]; exact h3.cell s hs64, ?_⟩
    obtain ⟨m, ham⟩ := (h3.row s hs64).addr (by omega)
    have hrow := h3.row s hs64
    rw [ham] at hrow ⊢
    obtain ⟨d0, d1⟩ := own_pair hrow hlt
    refine NilP.intro _ rfl (InB.intro k rfl hlt ?_)
    rw [elemAt_none]
    refine ⟨_, d0, _, d1, NewW.intro fun v hv => ?_⟩
    refine StCell.blk Blk.upd_eq (by simp) rfl (StCell.blk Blk.upd_eq (by simp) rfl ?_)
    generalize hx0 : (R1 s).xs[k] = x at *
    have kv : Keep Nil H3 (((H3.upd v (.cells ⟨[Value.int .i64 0, Value.int .i64 0]⟩ T_wheel_timer (0, 0))).upd v (.cells ((⟨[Value.int .i64 0, Value.int .i64 0]⟩ : Array Value).setIfInBounds 0 (.int .i64 x.1)) T_wheel_timer (0, 0))).upd v (.cells (((⟨[Value.int .i64 0, Value.int .i64 0]⟩ : Array Value).setIfInBounds 0 (.int .i64 x.1)).setIfInBounds 1 (.int .i64 x.2)) T_wheel_timer (0, 0))) :=
      (((Keep.refl _ _).upd (.inr hv)).upd (.inr hv)).upd (.inr hv)
    have hV : Blk (((H3.upd v (.cells ⟨[Value.int .i64 0, Value.int .i64 0]⟩ T_wheel_timer (0, 0))).upd v (.cells ((⟨[Value.int .i64 0, Value.int .i64 0]⟩ : Array Value).setIfInBounds 0 (.int .i64 x.1)) T_wheel_timer (0, 0))).upd v (.cells (((⟨[Value.int .i64 0, Value.int .i64 0]⟩ : Array Value).setIfInBounds 0 (.int .i64 x.1)).setIfInBounds 1 (.int .i64 x.2)) T_wheel_timer (0, 0))) v T_wheel_timer ⟨[.int .i64 x.1, .int .i64 x.2]⟩ := Blk.upd_eq
    generalize (((H3.upd v (.cells ⟨[Value.int .i64 0, Value.int .i64 0]⟩ T_wheel_timer (0, 0))).upd v (.cells ((⟨[Value.int .i64 0, Value.int .i64 0]⟩ : Array Value).setIfInBounds 0 (.int .i64 x.1)) T_wheel_timer (0, 0))).upd v (.cells (((⟨[Value.int .i64 0, Value.int .i64 0]⟩ : Array Value).setIfInBounds 0 (.int .i64 x.1)).setIfInBounds 1 (.int .i64 x.2)) T_wheel_timer (0, 0))) = H4 at kv hV
    have h4 := h3.keep kv fun _ _ h => h
    have ho4 := ho.keep kv fun _ _ h => h
    have kp4 : Keep (Ft b mb R) H H4 := kp.trans (kv.mono fun _ h => h.elim)
    have hrow4 := hrow.keep kv fun _ _ h => h
    refine ⟨x.2, by rw [hV.cell]; rfl, now, by rw [h4.blk.cell]; exact h4.now, ?_⟩
    have hxL : x ∈ Lc := by
      have h1 : x ∈ (R1 s).xs := by rw [← hx0]; exact List.getElem_mem hlt
      exact (List.mem_filter.1 ((h3.spoke s hs64).mem_iff.1 h1)).1
    by_cases hgt : x.2 > now
    · rw [decide_eq_true hgt, IfB_true, wrap_id (by omega) (by omega)]
      refine ⟨(R1 s).xs.length - (k + 1), by omega, k + 1, a, cap, rem, Lc, c1, es1, R1, by simp, h4, hft, kp4, hperm, hrem, by omega, rfl, fun j hj hjk => ?_, ho4⟩
      by_cases e : j = k
      · subst e; rw [hx0]; exact hgt
      · exact hkept j hj (by omega)
    · rw [decide_eq_false hgt, IfB_false]
      have hxn : x.2 = now := by have := hall x (hmemL x hxL); omega
      refine NilP.intro _ rfl ⟨_, _, _, by rw [h4.blk.cell]; exact h4.cell s hs64, ?_⟩
      rw [wrap_id (by omega) (by omega), ham]
      refine (del_spec hrow4 (by omega) hlt).mono ?_
      rintro _ H5 ⟨k5, ys, rfl, rfl, ho5⟩
      refine ⟨_, _, _, rfl, NilP.intro _ rfl ?_⟩
      have hrb := h3.ne_row hs64 ham
      have hB5 : Blk H5 b T_wheel_Wheel c1 := k5.blk h4.blk fun e => by cases e; exact hrb.1 rfl
      have hM5 : MapAt H5 mb es1 ck := h4.map.keep k5 fun e => by cases e; exact hrb.2 rfl
      have hvb : v ≠ b := fun e => by subst e; exact h3.blk.some hv
      have hvm : v ≠ mb := fun e => by subst e; exact h3.map.some hv
      have hvr : v ≠ m := fun e => by subst e; obtain ⟨_, hb⟩ := hrow.live rfl; exact hb.some hv
      have hV5 : Blk H5 v T_wheel_timer ⟨[.int .i64 x.1, .int .i64 x.2]⟩ := k5.blk hV fun e => by cases e; exact hvr rfl
      refine StCell.blk hB5 (by rw [h3.size]; omega) rfl ?_
      have k6 : Keep (fun x => x = b) H5 (H5.upd b (.cells (c1.setIfInBounds s (.slice (some ⟨m, 0, none⟩) ((R1 s).xs.eraseIdx k).length (R1 s).cap)) T_wheel_Wheel (0, 0))) := (Keep.refl _ _).upd (.inl rfl)
      have hB6 : Blk (H5.upd b (.cells (c1.setIfInBounds s (.slice (some ⟨m, 0, none⟩) ((R1 s).xs.eraseIdx k).length (R1 s).cap)) T_wheel_Wheel (0, 0))) b T_wheel_Wheel (c1.setIfInBounds s (.slice (some ⟨m, 0, none⟩) ((R1 s).xs.eraseIdx k).length (R1 s).cap)) := Blk.upd_eq
      generalize H5.upd b (.cells (c1.setIfInBounds s (.slice (some ⟨m, 0, none⟩) ((R1 s).xs.eraseIdx k).length (R1 s).cap)) T_wheel_Wheel (0, 0)) = H6 at k6 hB6
      have hM6 : MapAt H6 mb es1 ck := hM5.keep k6 fun e => h.ne_mb e.symm
      have hV6 := k6.blk hV5 hvb
      refine ⟨_, by rw [hB6.cell, Array.getElem?_setIfInBounds_ne (by omega)]; exact h3.due, x.1, by rw [hV6.cell]; rfl, DelI mapTy hM6 fun H7 h7 => ?_⟩
      have k7 : Keep (fun x => x = mb) H6 H7 := by rw [h7]; exact (Keep.refl _ _).upd (.inl rfl)
      have hM7 : MapAt H7 mb (eraK x.1 es1) ck := by rw [h7]; exact upd_eq
      have hV7 := k7.blk hV6 hvm
      refine ⟨x.1, by rw [hV7.cell]; rfl, NewW.intro fun w hw => ?_⟩
      have k8 : Keep Nil H7 (H7.upd w (.cells ⟨[.int .i64 x.1]⟩ T_int (0, 0))) := (Keep.refl _ _).new hw
      have hW8 : Blk (H7.upd w (.cells ⟨[.int .i64 x.1]⟩ T_int (0, 0))) w T_int ⟨[.int .i64 x.1]⟩ := Blk.upd_eq
      generalize H7.upd w (.cells ⟨[.int .i64 x.1]⟩ T_int (0, 0)) = H8 at k8 hW8
      have hFm : Ft b mb R m := by rw [← hft]; exact .inr (.inr ⟨s, hs64, ham⟩)
      have kp8 : Keep (Ft b mb R) H4 H8 := by
        refine (((k5.mono fun y hy => ?_).trans (k6.mono fun y hy => .inl hy)).trans (k7.mono fun y hy => .inr (.inl hy))).trans (k8.mono fun _ h => h.elim)
        cases hy; exact hFm
      have ho8 := ho4.keep kp8 fun y hy => hapart y hy
      obtain ⟨it, hit, hsz, hby⟩ := row_int.info
      refine own_append2 (H0 := H) (S := Ft b mb R) und_sl_int und_sl_int hit hsz hby (by omega) row_int.zero rfl ho8 (kp4.trans kp8) (new := [.int .i64 x.1]) (Reads.blk hW8 rfl fun j hj => by rw [Nat.zero_add]; simp)
        (by intro v hv; simp only [List.mem_singleton] at hv; subst hv; rfl) (by omega) fun a' cap' H9 _ ho9 hnew9 k9 kk9 => ?_
      refine ⟨_, _, _, rfl, ?_⟩
      have hdisj : ∀ y, (a = some ⟨y, 0, none⟩) → ¬ Ft b mb R1 y := fun y hy hf => hapart y hy (by rw [← hft]; exact hf)
      have hother : ∀ i, i < 64 → i ≠ s → ∀ y, (R1 i).a = some ⟨y, 0, none⟩ → H9 y = H3 y := by
        intro i hi hne y hy
        obtain ⟨_, hb⟩ := (h3.row i hi).live hy
        have hy0 : H3 y ≠ none := hb.some
        have f1 := kv.same y (fun h => h) hy0
        have l1 := kv.live y hy0
        have f2 := k5.same y (fun e => by cases e; exact hne (h3.apart i s hi hs64 _ hy ham)) l1
        have l2 := k5.live y l1
        have f3 := k6.same y (h3.ne_row hi hy).1 l2
        have l3 := k6.live y l2
        have f4 := k7.same y (h3.ne_row hi hy).2 l3
        have l4 := k7.live y l3
        have f5 := k8.same y (fun h => h) l4
        have l5 := k8.live y l4
        have f6 := k9.same y (fun e => hdisj y e (.inr (.inr ⟨i, hi, hy⟩))) l5
        rw [f6, f5, f4, f3, f2, f1]
      have nb : ∀ y, Ft b mb R1 y → ¬ (a = some ⟨y, 0, none⟩) := fun y hy e => hdisj y e hy
      have hB9 : Blk H9 b T_wheel_Wheel (c1.setIfInBounds s (.slice (some ⟨m, 0, none⟩) ((R1 s).xs.eraseIdx k).length (R1 s).cap)) := k9.blk (k8.blk (k7.blk hB6 fun e => h.ne_mb e) fun h => h) (nb b (.inl rfl))
      have hM9 : MapAt H9 mb (eraK x.1 es1) ck := (hM7.keep k8 fun h => h).keep k9 (nb mb (.inr (.inl rfl)))
      have hR9 : Sh.Own emp H9 (some ⟨m, 0, none⟩) ((R1 s).xs.eraseIdx k).length (R1 s).cap 2 T_wheel_timer (prs ((R1 s).xs.eraseIdx k)) :=
        (((ho5.keep k6 fun y hy e => by cases hy; exact hrb.1 e).keep k7 fun y hy e => by cases hy; exact hrb.2 e).keep k8 fun _ _ h => h).keep k9 fun y hy => by cases hy; exact nb m (.inr (.inr ⟨s, hs64, ham⟩))
      have hp1 : (x :: (R1 s).xs.eraseIdx k).Perm (R1 s).xs := by
        rw [← hx0]
        exact erase_perm hlt
      have hsx : s = (x.2 % 64).toNat := by rw [hxn, hsg]
      have hW := h3.remove (H' := H9) hxL hsx (r := ⟨some ⟨m, 0, none⟩, (R1 s).cap, (R1 s).xs.eraseIdx k⟩) hB9 rfl hM9 hR9 ham.symm hp1 hother
      have hle : ((R1 s).xs.eraseIdx k).length = (R1 s).xs.length - 1 := List.length_eraseIdx_of_lt hlt
      refine ⟨(R1 s).xs.length - 1 - k, by omega, k, a', cap', rem ++ [x], wo Lc x.1, _, _, _, by simp, hW, (ft_same hs64 ham.symm).trans hft, kk9, ?_, ?_, by simp only [if_true]; omega, by simp only [if_true]; omega, ?_, ?_⟩
      · rw [List.append_assoc]
        refine (List.Perm.append_left rem ?_).trans hperm
        exact cons_wo (up_dist h3.up) hxL
      · intro e he
        rcases List.mem_append.1 he with he | he
        · exact hrem e he
        · simp only [List.mem_singleton] at he; subst he; exact hxn
      · intro j hj hjk
        simp only [if_true] at hj ⊢
        rw [List.getElem_eraseIdx, dif_pos hjk]
        exact hkept j (by omega) hjk
      · rw [List.map_append, iv_append, List.length_append]
        exact ho9
end
end Go.Proofs.Ytdhjglkacnhhcaa
