/-
  Layer 4: timers are dropped, and set.
-/
import Derived.Test.YtdhjglkacnhhcaaWh1
set_option linter.all false
set_option maxRecDepth 100000
namespace Go.Sh
theorem own_blk {H0 H : Heap} {m n cap sz : Nat} {T : TypeId} {xs : List Value} (h : Sh.Own H0 H (some ⟨m, 0, none⟩) n cap sz T xs) : H0 m = none ∧ ∃ c : Array Value, Blk H m T c ∧ c.size = cap * sz ∧ ∀ j, j < n * sz → c[j]? = xs[j]? := by
  obtain ⟨hl, hc, hr⟩ := h
  rcases hr with ⟨e, _⟩ | ⟨m', rest, e, h0, hb, hr⟩
  · cases e
  · cases e
    refine ⟨h0, _, hb, ?_, fun j hj => ?_⟩
    · have : cap * sz = n * sz + (cap - n) * sz := by rw [← Nat.add_mul, Nat.add_sub_cancel' hc]
      simp only [List.size_toArray, List.length_append]; omega
    · simp [List.getElem?_append, hl, hj]
theorem own_of_blk {H0 H : Heap} {m n cap sz : Nat} {T : TypeId} {xs : List Value} {c : Array Value} (h0 : H0 m = none) (hb : Blk H m T c) (hs : c.size = cap * sz) (hl : xs.length = n * sz) (hn : n ≤ cap) (h : ∀ j, j < n * sz → c[j]? = xs[j]?) :
    Sh.Own H0 H (some ⟨m, 0, none⟩) n cap sz T xs := by
  have hcs : cap * sz = n * sz + (cap - n) * sz := by rw [← Nat.add_mul, Nat.add_sub_cancel' hn]
  refine ⟨hl, hn, .inr ⟨m, c.toList.drop (n * sz), rfl, h0, ?_, ?_⟩⟩
  · have e : (⟨xs ++ c.toList.drop (n * sz)⟩ : Array Value) = c := by
      apply Array.ext_getElem?
      intro j
      simp only [List.getElem?_toArray]
      by_cases hj : j < n * sz
      · rw [List.getElem?_append_left (by omega), h j hj]
      · rw [List.getElem?_append_right (by omega), List.getElem?_drop, Array.getElem?_toList]
        congr 1; omega
    rw [e]; exact hb
  · rw [List.length_drop, Array.length_toList]; omega
end Go.Sh
namespace Go.Proofs.Ytdhjglkacnhhcaa
open Go.Sh Go.Wheel

/-- A pair of cells. -/
def AtP (c : Array Value) (t : Nat) (e : Ent) : Prop := c[t * 2]? = some (.int .i64 e.1) ∧ c[t * 2 + 1]? = some (.int .i64 e.2)
theorem prs_at {c : Array Value} {l : List Ent} {n : Nat} (hn : n = l.length) : (∀ j, j < n * 2 → c[j]? = (prs l)[j]?) ↔ ∀ t (h : t < l.length), AtP c t l[t] := by
  subst hn
  constructor
  · intro h t ht
    exact ⟨by rw [h _ (by omega), prs_get0 l ht], by rw [h _ (by omega), prs_get1 l ht]⟩
  · intro h j hj
    rcases Nat.mod_two_eq_zero_or_one j with e | e
    · have ht : j / 2 < l.length := by omega
      have := (h _ ht).1
      rw [show j / 2 * 2 = j by omega] at this
      rw [this, ← prs_get0 l ht]
      congr 1; omega
    · have ht : j / 2 < l.length := by omega
      have := (h _ ht).2
      rw [show j / 2 * 2 + 1 = j by omega] at this
      rw [this, ← prs_get1 l ht]
      congr 1; omega

section
variable {H H' : Heap}
theorem drop1_spec {kb : Nat} {k : Int} {c : Array Value} (hb : Blk H kb T_int c) (hk : c[0]? = some (.int .i64 k)) (e : Ent) :
    FnW Try.prog f_wheel_Wheel_drop_1 ⟨[.agg ⟨[.int .i64 e.1, .int .i64 e.2]⟩, .pointer (some ⟨kb, 0, none⟩)]⟩ H fun v H' => v = .bool (e.1 == k) ∧ Keep Nil H H' := by
  refine wheel_Wheel_drop_1_sh e.1 e.2 kb ?_
  unfold wheel_Wheel_drop_1_p
  refine NewW.intro fun n hn => ?_
  refine ⟨e.1, by rw [Blk.upd_eq.cell]; rfl, k, ?_, ?_⟩
  · rw [(Blk.upd_ne hb (hb.ne hn)).cell]; exact hk
  · exact fun H2 hs => ⟨rfl, shutS ((Keep.refl _ _).new hn) hs⟩

theorem index_spec {a : Option Addr} {cap kb : Nat} {k : Int} {xs : List Ent} (ho : Sh.Own emp H a xs.length cap 2 T_wheel_timer (prs xs)) (hlen : xs.length ≤ 1000) {c : Array Value} (hb : Blk H kb T_int c) (hk : c[0]? = some (.int .i64 k)) :
    FnW Try.prog f_slices_IndexFuncasl_wheel_timer_wheel_timer ⟨[.slice a xs.length cap, .func (.func f_wheel_Wheel_drop_1) #[] #[.pointer (some ⟨kb, 0, none⟩)]]⟩ H fun v H' => Keep Nil H H' ∧
      ((v = .int .i64 (-1) ∧ ∀ e ∈ xs, e.1 ≠ k) ∨ ∃ i : Nat, ∃ h : i < xs.length, v = .int .i64 i ∧ (xs[i]).1 = k ∧ ∀ j (hj : j < i), (xs[j]'(by omega)).1 ≠ k) := by
  refine slices_IndexFuncasl_wheel_timer_wheel_timer_sh a xs.length cap f_wheel_Wheel_drop_1 (.pointer (some ⟨kb, 0, none⟩)) ?_
  unfold slices_IndexFuncasl_wheel_timer_wheel_timer_p
  refine LoopI.intro (fun m s H3 => ∃ i : Nat, s = ((i : Int), ()) ∧ i ≤ xs.length ∧ m = xs.length - i ∧ Keep Nil H H3 ∧ ∀ j (h : j < xs.length), j < i → xs[j].1 ≠ k) xs.length ⟨0, rfl, Nat.zero_le _, by omega, Keep.refl _ _, fun j _ h => by omega⟩ ?_
  rintro m s H3 ⟨i, rfl, hi, rfl, kp, hno⟩ g
  unfold slices_IndexFuncasl_wheel_timer_wheel_timer_l2
  dsimp only
  by_cases hlt : i < xs.length
  · rw [decide_eq_true (by omega), IfB_true]
    obtain ⟨m, rfl⟩ := ho.addr (by omega)
    have ho3 := ho.keep kp fun _ _ h => h
    obtain ⟨c0, c1⟩ := own_pair ho3 hlt
    refine NilP.intro _ rfl (InB.intro i rfl hlt ?_)
    rw [elemAt_none]
    refine ⟨_, c0, _, c1, ?_⟩
    refine (drop1_spec (kp.blk hb fun h => h) hk xs[i]).mono ?_
    rintro _ H4 ⟨rfl, k4⟩
    refine ⟨_, rfl, ?_⟩
    by_cases he : xs[i].1 = k
    · rw [show (xs[i].1 == k) = true by simp [he], IfB_true]
      refine fun H2 hs => ⟨shutS (kp.trans k4) hs, .inr ⟨i, hlt, rfl, he, fun j hj => hno j (by omega) hj⟩⟩
    · rw [show (xs[i].1 == k) = false by simp [he], IfB_false]
      rw [wrap_id (by omega) (by omega)]
      refine ⟨xs.length - (i + 1), by omega, i + 1, by simp, by omega, rfl, kp.trans k4, fun j hj hji => ?_⟩
      by_cases e : j = i
      · subst e; exact he
      · exact hno j hj (by omega)
  · rw [decide_eq_false (by omega), IfB_false]
    refine fun H2 hs => ⟨shutS kp hs, .inl ⟨rfl, fun e he => ?_⟩⟩
    obtain ⟨j, hj, rfl⟩ := List.mem_iff_getElem.1 he
    exact hno j hj (by omega)

theorem clear0 {a : Option Addr} {n : Nat} {cap : Nat} {ty : TypeId} {K : Value → Heap → Prop} (hn : n = 0) (h : K (.tuple #[]) H) : SemW Try.prog (Builtin.clear_ #[T_sl_wheel_timer] ty ⟨[.slice a n cap]⟩) H K := by
  subst hn
  unfold Builtin.clear_
  show SemW Try.prog (underlying T_sl_wheel_timer >>= _) H K
  refine (SemW.bind _ _ _ _).2 (semW_underlying und_sl_timer ?_)
  cases a <;> exact h
theorem clearI {m o n cap : Nat} {T : TypeId} {c : Array Value} {ty : TypeId} {K : Value → Heap → Prop} (hb : Blk H m T c) (hs : o + n * 2 ≤ c.size)
    (h : ∀ H' c', Blk H' m T c' → c'.size = c.size → (∀ j, j < o → c'[j]? = c[j]?) → (∀ x, x ≠ m → H' x = H x) → K (.tuple #[]) H') :
    SemW Try.prog (Builtin.clear_ #[T_sl_wheel_timer] ty ⟨[.slice (some ⟨m, o, none⟩) n cap]⟩) H K := by
  by_cases hn : n = 0
  · exact clear0 hn (h H c hb rfl (fun _ _ => rfl) fun _ _ => rfl)
  · obtain ⟨n, rfl⟩ : ∃ k, n = k + 1 := ⟨n - 1, by omega⟩
    unfold Builtin.clear_
    show SemW Try.prog (underlying T_sl_wheel_timer >>= _) H K
    refine (SemW.bind _ _ _ _).2 (semW_underlying und_sl_timer ?_)
    show SemW Try.prog (zeroValue T_wheel_timer >>= fun z => storeCells ⟨m, o, none⟩ (Builtin.zeroCells z.cells (n + 1)).toList >>= fun _ => pure (.tuple #[])) H K
    refine (SemW.bind _ _ _ _).2 (semW_zero row_timer.zero fun zv hzv => ?_)
    refine (SemW.bind _ _ _ _).2 ?_
    rw [zeroCells_eq, hzv]
    have hl : (repL (n + 1) [Value.int .i64 0, Value.int .i64 0]).length = (n + 1) * 2 := by rw [repL_length]; rfl
    refine semW_storeCells _ 0 H c hb ?_ (by show o + 0 + (repL (n + 1) [Value.int .i64 0, Value.int .i64 0]).length ≤ _; rw [hl]; omega) fun H' e1 e2 => ?_
    · intro v hm
      have : ∀ n, v ∈ repL n [Value.int .i64 0, Value.int .i64 0] → plainC v = true := by
        intro n
        induction n with
        | zero => intro h; cases h
        | succ n ih =>
          intro h
          rcases List.mem_append.1 h with h | h
          · simp only [List.mem_cons, List.not_mem_nil, or_false] at h
            rcases h with rfl | rfl <;> rfl
          · exact ih h
      exact this _ hm
    · refine h H' _ e1 (putRow_size _ _ _) (fun j hj => ?_) e2
      rw [putRow_get _ _ _ _ (by show o + 0 + (repL (n + 1) [Value.int .i64 0, Value.int .i64 0]).length ≤ _; rw [hl]; omega), if_neg (by omega)]

/-- What has not the key stays, in its order. -/
theorem delF_spec {a : Option Addr} {cap kb : Nat} {k : Int} {xs : List Ent} (ho : Sh.Own emp H a xs.length cap 2 T_wheel_timer (prs xs)) (hlen : xs.length ≤ 1000) {kc : Array Value} (hb : Blk H kb T_int kc) (hk : kc[0]? = some (.int .i64 k)) :
    FnW Try.prog f_slices_DeleteFuncasl_wheel_timer_wheel_timer ⟨[.slice a xs.length cap, .func (.func f_wheel_Wheel_drop_1) #[] #[.pointer (some ⟨kb, 0, none⟩)]]⟩ H fun v H' => Keep (fun x => a = some ⟨x, 0, none⟩) H H' ∧
      ∃ ys : List Ent, ys = xs.filter (fun e => decide (e.1 ≠ k)) ∧ v = .slice a ys.length cap ∧ Sh.Own emp H' a ys.length cap 2 T_wheel_timer (prs ys) := by
  refine slices_DeleteFuncasl_wheel_timer_wheel_timer_sh a xs.length cap f_wheel_Wheel_drop_1 (.pointer (some ⟨kb, 0, none⟩)) ?_
  unfold slices_DeleteFuncasl_wheel_timer_wheel_timer_p
  refine (index_spec ho hlen hb hk).mono ?_
  rintro _ H1 ⟨k1, ⟨rfl, hno⟩ | ⟨i0, hi0, rfl, hik, hbefore⟩⟩
  · refine ⟨_, rfl, ?_⟩
    rw [show ((-1 : Int) == -1) = true from rfl, IfB_true]
    have hf : xs.filter (fun e => decide (e.1 ≠ k)) = xs := by rw [List.filter_eq_self]; intro e he; exact decide_eq_true (hno e he)
    have k1' : Keep (fun x => a = some ⟨x, 0, none⟩) H H1 := k1.mono fun _ h => h.elim
    refine fun H2 hs => ⟨shutS k1' hs, xs, hf.symm, rfl, shutO (ho.keep k1 fun _ _ h => h) hs⟩
  · refine ⟨_, rfl, ?_⟩
    rw [beqI_ne (a := ((i0 : Nat) : Int)) (b := -1) (by omega), IfB_false]
    obtain ⟨m, rfl⟩ := ho.addr (by omega)
    have ho1 := ho.keep k1 fun _ _ h => h
    obtain ⟨_, c1, hB1, hs1, hc1⟩ := own_blk ho1
    have hc1 := (prs_at rfl).1 hc1
    have hcap := ho.le
    have hkm : kb ≠ m := fun e => by
      subst e
      obtain ⟨cc, hb2⟩ := ho.live rfl
      unfold Blk at hb hb2
      rw [hb] at hb2
      simp only [Option.some.injEq, Obj.cells.injEq] at hb2
      exact absurd hb2.2.1 (by decide)
    -- what is kept of the first j
    have f0 : (xs.take i0).filter (fun e => decide (e.1 ≠ k)) = xs.take i0 := by
      rw [List.filter_eq_self]
      intro e he
      obtain ⟨j, hj, rfl⟩ := List.mem_iff_getElem.1 he
      simp only [List.length_take] at hj
      rw [List.getElem_take]
      exact decide_eq_true (hbefore j (by omega))
    have f1 : (xs.take (i0 + 1)).filter (fun e => decide (e.1 ≠ k)) = xs.take i0 := by
      rw [List.take_succ_eq_append_getElem hi0, List.filter_append, f0, List.filter_cons_of_neg (by simpa using hik)]; simp
    refine LoopI.intro (fun n s H3 => ∃ (i j : Nat) (c : Array Value), s = ((i : Int), (j : Int), ()) ∧ j ≤ xs.length ∧ n = xs.length - j ∧ i < j ∧ ((xs.take j).filter fun e => decide (e.1 ≠ k)).length = i ∧
        Keep (fun x => (some ⟨m, 0, none⟩ : Option Addr) = some ⟨x, 0, none⟩) H H3 ∧ Blk H3 m T_wheel_timer c ∧ c.size = cap * 2 ∧
        (∀ t (h : t < ((xs.take j).filter fun e => decide (e.1 ≠ k)).length), AtP c t ((xs.take j).filter fun e => decide (e.1 ≠ k))[t]) ∧ (∀ t (h : t < xs.length), j ≤ t → AtP c t xs[t])) (xs.length - (i0 + 1))
      ⟨i0, i0 + 1, c1, ?_, by omega, rfl, by omega, ?_, k1.mono fun _ h => h.elim, hB1, hs1, ?_, fun t h _ => hc1 t h⟩ ?_
    · rw [wrap_id (by omega) (by omega)]; simp
    · rw [f1]; simp; omega
    · intro t h
      have h' : t < (xs.take i0).length := by rw [← f1]; exact h
      have e : ((xs.take (i0 + 1)).filter fun e => decide (e.1 ≠ k))[t] = (xs.take i0)[t] := by simp only [f1]
      rw [e, List.getElem_take]
      exact hc1 t _
    · rintro n s H3 ⟨i, j, c, rfl, hj, rfl, hij, hil, kp, hB, hs, hF, hT⟩ g
      unfold slices_DeleteFuncasl_wheel_timer_wheel_timer_l5
      dsimp only
      by_cases hlt : j < xs.length
      · rw [decide_eq_true (by omega), IfB_true]
        obtain ⟨d0, d1⟩ := hT j hlt (Nat.le_refl _)
        refine NilP.intro _ rfl (InB.intro j rfl hlt ?_)
        rw [elemAt_none]
        simp only [Nat.zero_add]
        refine ⟨xs[j].1, by rw [hB.cell]; exact d0, xs[j].2, by rw [hB.cell]; exact d1, ?_⟩
        refine NewW.intro fun v hv => ?_
        refine StCell.blk Blk.upd_eq (by simp) rfl (StCell.blk Blk.upd_eq (by simp) rfl ?_)
        refine ⟨xs[j].1, by rw [Blk.upd_eq.cell]; rfl, xs[j].2, by rw [Blk.upd_eq.cell]; rfl, ?_⟩
        have hBm : m ≠ v := hB.ne hv
        have kv : Keep Nil H3 (((H3.upd v (.cells ⟨[Value.int .i64 0, Value.int .i64 0]⟩ T_wheel_timer (0, 0))).upd v (.cells ((⟨[Value.int .i64 0, Value.int .i64 0]⟩ : Array Value).setIfInBounds 0 (.int .i64 xs[j].1)) T_wheel_timer (0, 0))).upd v (.cells (((⟨[Value.int .i64 0, Value.int .i64 0]⟩ : Array Value).setIfInBounds 0 (.int .i64 xs[j].1)).setIfInBounds 1 (.int .i64 xs[j].2)) T_wheel_timer (0, 0))) :=
          (((Keep.refl _ _).upd (.inr hv)).upd (.inr hv)).upd (.inr hv)
        have hV : Blk (((H3.upd v (.cells ⟨[Value.int .i64 0, Value.int .i64 0]⟩ T_wheel_timer (0, 0))).upd v (.cells ((⟨[Value.int .i64 0, Value.int .i64 0]⟩ : Array Value).setIfInBounds 0 (.int .i64 xs[j].1)) T_wheel_timer (0, 0))).upd v (.cells (((⟨[Value.int .i64 0, Value.int .i64 0]⟩ : Array Value).setIfInBounds 0 (.int .i64 xs[j].1)).setIfInBounds 1 (.int .i64 xs[j].2)) T_wheel_timer (0, 0))) v T_wheel_timer ⟨[.int .i64 xs[j].1, .int .i64 xs[j].2]⟩ := Blk.upd_eq
        generalize (((H3.upd v (.cells ⟨[Value.int .i64 0, Value.int .i64 0]⟩ T_wheel_timer (0, 0))).upd v (.cells ((⟨[Value.int .i64 0, Value.int .i64 0]⟩ : Array Value).setIfInBounds 0 (.int .i64 xs[j].1)) T_wheel_timer (0, 0))).upd v (.cells (((⟨[Value.int .i64 0, Value.int .i64 0]⟩ : Array Value).setIfInBounds 0 (.int .i64 xs[j].1)).setIfInBounds 1 (.int .i64 xs[j].2)) T_wheel_timer (0, 0))) = H4 at kv hV
        have kp4 := kp.trans (kv.mono fun _ h => h.elim)
        have hb4 : Blk H4 kb T_int kc := kp4.blk hb fun e => by cases e; exact hkm rfl
        refine (drop1_spec hb4 hk xs[j]).mono ?_
        rintro _ H5 ⟨rfl, k5⟩
        refine ⟨_, rfl, ?_⟩
        have kp5 := kp4.trans (k5.mono fun _ h => h.elim)
        have hB5 : Blk H5 m T_wheel_timer c := k5.blk (kv.blk hB fun h => h) fun h => h
        have hV5 := k5.blk hV fun h => h
        have tk : (xs.take (j + 1)).filter (fun e => decide (e.1 ≠ k)) = (xs.take j).filter (fun e => decide (e.1 ≠ k)) ++ (if xs[j].1 ≠ k then [xs[j]] else []) := by
          rw [List.take_succ_eq_append_getElem hlt, List.filter_append]
          congr 1
          by_cases e : xs[j].1 = k
          · rw [List.filter_cons_of_neg (by simpa using e), if_neg (by simpa using e)]; rfl
          · rw [List.filter_cons_of_pos (by simpa using e), if_pos e]; rfl
        unfold slices_DeleteFuncasl_wheel_timer_wheel_timer_j0
        by_cases he : xs[j].1 = k
        · rw [show (xs[j].1 == k) = true by simp [he], Bool.not_true, IfB_false]
          rw [if_neg (by simpa using he), List.append_nil] at tk
          rw [wrap_id (by omega) (by omega)]
          refine ⟨xs.length - (j + 1), by omega, i, j + 1, c, by simp, by omega, rfl, by omega, by rw [tk]; exact hil, kp5, hB5, hs, ?_, fun t h ht => hT t h (by omega)⟩
          simp only [tk]; exact hF
        · rw [show (xs[j].1 == k) = false by simp [he], Bool.not_false, IfB_true]
          rw [if_pos he] at tk
          refine ⟨xs[j].1, by rw [hV5.cell]; rfl, xs[j].2, by rw [hV5.cell]; rfl, ?_⟩
          refine NilP.intro _ rfl (InB.intro i rfl (by omega) ?_)
          rw [elemAt_none]
          simp only [Nat.zero_add]
          refine StCell.blk hB5 (by omega) rfl (StCell.blk Blk.upd_eq (by simp; omega) rfl ?_)
          rw [wrap_id (by omega) (by omega), wrap_id (by omega) (by omega)]
          have kf : Keep (fun x => (some ⟨m, 0, none⟩ : Option Addr) = some ⟨x, 0, none⟩) H ((H5.upd m (.cells (c.setIfInBounds (i * 2) (.int .i64 xs[j].1)) T_wheel_timer (0, 0))).upd m (.cells ((c.setIfInBounds (i * 2) (.int .i64 xs[j].1)).setIfInBounds (i * 2 + 1) (.int .i64 xs[j].2)) T_wheel_timer (0, 0))) := (kp5.upd (.inl rfl)).upd (.inl rfl)
          refine ⟨xs.length - (j + 1), by omega, i + 1, j + 1, _, by simp, by omega, rfl, by omega, by rw [tk, List.length_append, hil]; rfl, kf, Blk.upd_eq, by simp [hs], ?_, ?_⟩
          · intro t h
            simp only [tk] at h ⊢
            rw [List.length_append, hil] at h
            simp only [List.length_cons, List.length_nil] at h
            by_cases e : t = i
            · subst e
              rw [List.getElem_append_right (by omega)]
              simp only [hil, Nat.sub_self, List.getElem_cons_zero]
              refine ⟨?_, ?_⟩
              · rw [Array.getElem?_setIfInBounds_ne (by omega), Array.getElem?_setIfInBounds_self_of_lt (by omega)]
              · rw [Array.getElem?_setIfInBounds_self_of_lt (by simp; omega)]
            · rw [List.getElem_append_left (by omega)]
              obtain ⟨a1, a2⟩ := hF t (by omega)
              refine ⟨?_, ?_⟩
              · rw [Array.getElem?_setIfInBounds_ne (by omega), Array.getElem?_setIfInBounds_ne (by omega)]; exact a1
              · rw [Array.getElem?_setIfInBounds_ne (by omega), Array.getElem?_setIfInBounds_ne (by omega)]; exact a2
          · intro t h ht
            obtain ⟨a1, a2⟩ := hT t h (by omega)
            refine ⟨?_, ?_⟩
            · rw [Array.getElem?_setIfInBounds_ne (by omega), Array.getElem?_setIfInBounds_ne (by omega)]; exact a1
            · rw [Array.getElem?_setIfInBounds_ne (by omega), Array.getElem?_setIfInBounds_ne (by omega)]; exact a2
      · rw [decide_eq_false (by omega), IfB_false]
        have hje : j = xs.length := by omega
        subst hje
        rw [List.take_length] at hil hF
        refine InC.intro i rfl (by omega) ?_
        have fin : ∀ H6 c', Blk H6 m T_wheel_timer c' → c'.size = c.size → (∀ t, t < i * 2 → c'[t]? = c[t]?) → (∀ x, x ≠ m → H6 x = H3 x) → ∀ H2, Shut H H6 H2 →
            (Keep (fun x => (some ⟨m, 0, none⟩ : Option Addr) = some ⟨x, 0, none⟩) H H2 ∧ ∃ ys : List Ent, ys = xs.filter (fun e => decide (e.1 ≠ k)) ∧ Value.slice (some ⟨m, 0, none⟩) i cap = .slice (some ⟨m, 0, none⟩) ys.length cap ∧ Sh.Own emp H2 (some ⟨m, 0, none⟩) ys.length cap 2 T_wheel_timer (prs ys)) := by
          intro H6 c' hB6 hs6 hc6 ho6 H2 hsh
          have k6 : Keep (fun x => (some ⟨m, 0, none⟩ : Option Addr) = some ⟨x, 0, none⟩) H3 H6 := ⟨fun x hx _ => ho6 x fun e => hx (by rw [e]), fun x hx => by
            by_cases e : x = m
            · subst e; exact hB6.some
            · rw [ho6 x e]; exact hx⟩
          refine ⟨shutS (kp.trans k6) hsh, _, rfl, by rw [hil], ?_⟩
          refine shutO (own_of_blk rfl hB6 (by omega) (prs_length _) (by omega) ((prs_at rfl).2 fun t ht => ?_)) hsh
          obtain ⟨a1, a2⟩ := hF t ht
          exact ⟨by rw [hc6 _ (by omega)]; exact a1, by rw [hc6 _ (by omega)]; exact a2⟩
        by_cases hci : cap = i
        · refine clear0 (by omega) ?_
          exact InC.intro i rfl (by omega) (fin H3 c hB rfl (fun _ _ => rfl) fun _ _ => rfl)
        · rw [if_neg hci, addr_map]
          refine clearI hB (by omega) fun H6 c' h1 h2 h3 h4 => ?_
          exact InC.intro i rfl (by omega) (fin H6 c' h1 h2 (fun t ht => h3 t (by omega)) h4)
end
end Go.Proofs.Ytdhjglkacnhhcaa
