/-
  Layer 4: what is done to both wheels; WheelPlays.
-/
import Derived.Test.YtdhjglkacnhhcaaWh7
set_option linter.all false
set_option maxRecDepth 100000
namespace Go.Proofs.Ytdhjglkacnhhcaa
open Go.Sh Go.Wheel

/-- An act. -/
def actR (M : WM) (k n : Int) : Nat → WM
  | 3 => (M.stop k).2
  | 4 => (M.skip 1).2.2
  | 5 => (M.skip 1).2.2
  | 6 => (M.skip n).2.2
  | _ => (M.set k n).2
def actM (M : WM) (d k n : Int) : WM := actR M k n (amongV d 7)
theorem ok_act {M : WM} (h : M.Ok) (d k n : Int) : (actM M d k n).Ok := by
  unfold actM actR
  split
  · exact h.stop k
  · exact h.skip 1
  · exact h.skip 1
  · exact h.skip n
  · exact h.set k n

theorem set_now (M : WM) (k n : Int) : (M.set k n).2.now = M.now := by
  unfold WM.set
  split
  · rfl
  · split <;> rfl
theorem stop_now (M : WM) (k : Int) : (M.stop k).2.now = M.now := by unfold WM.stop; split <;> rfl
theorem skip_len_le (M : WM) (ok : M.Ok) (n : Int) : (M.skip n).1.length ≤ 256 := by
  unfold WM.skip
  split
  · simp
  · have key : ∀ (f : Nat) (L : List Ent) (t : Int), (skipL f L t).1.length ≤ L.length := by
      intro f
      induction f with
      | zero => intro L t; simp [skipL]
      | succ f ih =>
        intro L t
        simp only [skipL]
        split
        · simp
        · split
          · simp
          · rename_i m _ _
            have := ih (restAt L m) t
            have := keys_rest L m
            simp only [List.length_append]; omega
    exact Nat.le_trans (key _ _ _) ok.len

theorem reads0 {H : Heap} {a : Option Addr} : Reads H a 0 [] := by
  cases a with
  | none => exact ⟨rfl, rfl⟩
  | some a => exact ⟨rfl, fun h => absurd h (by omega)⟩
theorem keptIn_nil {H1 H2 : Heap} {q : Nat} {T : TypeId} {c : Array Value} (k : Keep Nil H1 H2) (h : Blk H1 q T c) : KeptIn [q] H1 H2 := fun x hx => by
  simp only [List.mem_singleton] at hx
  subst hx
  exact ⟨⟨_, h⟩, k.same _ (fun h => h) h.some⟩
section
variable {H H' : Heap} {b : Nat} {F : Nat → Prop} {M : WM}
theorem wset_spec (h : WAt H b F M) (ok : M.Ok) (k n : Int) : FnW Try.prog f_wheel_Wheel_Set ⟨[.pointer (some ⟨b, 0, none⟩), .int .i64 k, .int .i64 n]⟩ H fun v H' => v = .int .i64 (M.set k n).1 ∧ ∃ F', WAt H' b F' (M.set k n).2 ∧ Stp F H H' F' := by
  obtain ⟨c, mb, es, ck, R, h, rfl⟩ := h
  refine (set_spec h ok.lo ok.hi k n).mono ?_
  rintro _ H1 ⟨rfl, k1, c1, es1, ck1, R1, hW, hn⟩
  have hW' : WRep H1 b (M.set k n).2.L (M.set k n).2.now c1 mb es1 ck1 R1 := by rw [set_now]; exact hW
  exact ⟨rfl, _, ⟨c1, mb, es1, ck1, R1, hW', rfl⟩, k1, hn⟩
theorem wstop_spec (h : WAt H b F M) (k : Int) : FnW Try.prog f_wheel_Wheel_Stop ⟨[.pointer (some ⟨b, 0, none⟩), .int .i64 k]⟩ H fun v H' => v = .int .i64 (M.stop k).1 ∧ ∃ F', WAt H' b F' (M.stop k).2 ∧ Stp F H H' F' := by
  obtain ⟨c, mb, es, ck, R, h, rfl⟩ := h
  refine (stop_spec h k).mono ?_
  rintro _ H1 ⟨rfl, k1, c1, es1, ck1, R1, hW, hn⟩
  have hW' : WRep H1 b (M.stop k).2.L (M.stop k).2.now c1 mb es1 ck1 R1 := by rw [stop_now]; exact hW
  exact ⟨rfl, _, ⟨c1, mb, es1, ck1, R1, hW', rfl⟩, k1, hn⟩
theorem wdue_spec (h : WAt H b F M) (k : Int) : FnW Try.prog f_wheel_Wheel_Due ⟨[.pointer (some ⟨b, 0, none⟩), .int .i64 k]⟩ H fun v H' => v = .tuple ⟨[.int .i64 ((dueL k M.L).getD 0), .bool (dueL k M.L).isSome]⟩ ∧ H = H' := by
  obtain ⟨c, mb, es, ck, R, h, rfl⟩ := h; exact due_spec h k
theorem wnow_spec (h : WAt H b F M) : FnW Try.prog f_wheel_Wheel_Now ⟨[.pointer (some ⟨b, 0, none⟩)]⟩ H fun v H' => v = .int .i64 M.now ∧ H = H' := by
  obtain ⟨c, mb, es, ck, R, h, rfl⟩ := h; exact now_spec h
theorem wlen_spec (h : WAt H b F M) : FnW Try.prog f_wheel_Wheel_Len ⟨[.pointer (some ⟨b, 0, none⟩)]⟩ H fun v H' => v = .int .i64 M.L.length ∧ H = H' := by
  obtain ⟨c, mb, es, ck, R, h, rfl⟩ := h; exact len_spec h
theorem wnext_spec (h : WAt H b F M) : FnW Try.prog f_wheel_Wheel_Next ⟨[.pointer (some ⟨b, 0, none⟩)]⟩ H fun v H' => v = .tuple ⟨[.int .i64 ((minL M.L).getD 0), .bool (minL M.L).isSome]⟩ ∧ Keep Nil H H' := by
  obtain ⟨c, mb, es, ck, R, h, rfl⟩ := h; exact next_spec h

theorem rset_spec (h : RAt H b F M) (ok : M.Ok) (k n : Int) : FnW Try.prog f_ref04_Wheel_Set ⟨[.pointer (some ⟨b, 0, none⟩), .int .i64 k, .int .i64 n]⟩ H fun v H' => v = .int .i64 (M.set k n).1 ∧ ∃ F', RAt H' b F' (M.set k n).2 ∧ Stp F H H' F' := by
  obtain ⟨a, cap, h, rfl⟩ := h
  refine ref04_Wheel_Set_sh b k n ?_
  unfold ref04_Wheel_Set_p
  have hlo := ok.lo
  have hhi := ok.hi
  unfold maxT at hhi
  have no : M.may n = false → ref04_Wheel_Set_j0 b k n true H fun v H1 => ∀ H2, Shut H H1 H2 → v = .int .i64 (M.set k n).1 ∧ ∃ F', RAt H2 b F' (M.set k n).2 ∧ Stp (Gt b a) H H2 F' := by
    intro hm
    unfold ref04_Wheel_Set_j0 WM.set
    rw [IfB_true, hm]
    simp only [if_true]
    exact fun H2 hs => ⟨by simp, _, ⟨a, cap, h.shut hs, rfl⟩, shutS (Keep.refl _ _) hs, fun x hx => .inl hx⟩
  by_cases h1 : n < 1
  · rw [decide_eq_true h1, IfB_true]
    refine no ?_
    unfold WM.may; rw [decide_eq_false (by omega)]; rfl
  · rw [decide_eq_false h1, IfB_false]
    refine ⟨M.now, h.time, ?_⟩
    rw [wrap_id (by omega) (by omega)]
    by_cases h2 : n > 1099511627776 - M.now
    · rw [decide_eq_true h2]
      refine no ?_
      unfold WM.may maxT; rw [decide_eq_false (p := n ≤ _) (by omega), Bool.and_false]
    · rw [decide_eq_false h2]
      have hm : M.may n = true := by unfold WM.may maxT; rw [decide_eq_true (by omega), decide_eq_true (by omega)]; rfl
      unfold ref04_Wheel_Set_j0
      rw [IfB_false]
      refine (rdue_spec h k).mono ?_
      rintro _ _ ⟨rfl, rfl⟩
      refine ⟨_, _, rfl, ?_⟩
      have hlen := h.len
      -- it is set
      have go : ¬(dueL k M.L = none ∧ M.L.length = 256) → ref04_Wheel_Set_j1 b k n false H fun v H1 => ∀ H2, Shut H H1 H2 → v = .int .i64 (M.set k n).1 ∧ ∃ F', RAt H2 b F' (M.set k n).2 ∧ Stp (Gt b a) H H2 F' := by
        intro hf
        have hset : M.set k n = (0, ⟨insL M.L k (M.now + n), M.now⟩) := by
          unfold WM.set; rw [hm, if_neg (by simp), if_neg hf]
        rw [hset]
        unfold ref04_Wheel_Set_j1
        rw [IfB_false]
        refine (rwo_spec h k).mono ?_
        rintro _ H1 ⟨k1, a1, cap1, rfl, ho1⟩
        refine ⟨_, _, _, rfl, ?_⟩
        have hwl : (wo M.L k).length ≤ 256 := Nat.le_trans (len_wo_le _ _) hlen
        refine LoopI.intro (fun m s H3 => ∃ i : Nat, s = ((i : Int), ()) ∧ i ≤ (wo M.L k).length ∧ m = (wo M.L k).length - i ∧ H1 = H3 ∧ (wo M.L k).take i = ((wo M.L k).take i).filter (fun e => decide (e.1 < k))) (wo M.L k).length ⟨0, rfl, Nat.zero_le _, by omega, rfl, rfl⟩ ?_
        rintro m s _ ⟨i, rfl, hi, rfl, rfl, hpre⟩ g
        unfold ref04_Wheel_Set_l8
        dsimp only
        -- the place is found
        have fin : ∀ R nx, R = (fun (v : Value) H4 => ∀ H2, Shut H H4 H2 → v = .int .i64 0 ∧ ∃ F', RAt H2 b F' ⟨insL M.L k (M.now + n), M.now⟩ ∧ Stp (Gt b a) H H2 F') → (∀ e ∈ (wo M.L k).drop i, k ≤ e.1) →
            ref04_Wheel_Set_j2 b k n a1 (wo M.L k).length cap1 (i : Int) nx false H1 R := by
          intro R nx hR hge
          subst hR
          have hlow : lowL (wo M.L k) k = (wo M.L k).take i ∧ upL (wo M.L k) k = (wo M.L k).drop i := by
            have h1 : ∀ (A B : List Ent), (∀ e ∈ A, e.1 < k) → (∀ e ∈ B, k ≤ e.1) → lowL (A ++ B) k = A ∧ upL (A ++ B) k = B := by
              intro A B
              induction A with
              | nil =>
                intro _ hB
                cases B with
                | nil => exact ⟨rfl, rfl⟩
                | cons e B =>
                  have := hB e List.mem_cons_self
                  unfold lowL upL
                  rw [List.nil_append, List.takeWhile_cons_of_neg (by simp; omega), List.dropWhile_cons_of_neg (by simp; omega)]
                  exact ⟨rfl, rfl⟩
              | cons e A ih =>
                intro hA hB
                have := hA e List.mem_cons_self
                obtain ⟨e1, e2⟩ := ih (fun x hx => hA x (List.mem_cons_of_mem _ hx)) hB
                unfold lowL upL at *
                rw [List.cons_append, List.takeWhile_cons_of_pos (by simpa using this), List.dropWhile_cons_of_pos (by simpa using this), e1, e2]
                exact ⟨rfl, rfl⟩
            have := h1 ((wo M.L k).take i) ((wo M.L k).drop i) (fun e he => by
              rw [hpre] at he
              exact of_decide_eq_true (List.mem_filter.1 he).2) hge
            rw [List.take_append_drop] at this
            exact this
          unfold ref04_Wheel_Set_j2
          rw [IfB_false]
          have h1 := h.keep k1 fun _ _ h => h
          have hB1 := h1.blk
          refine ⟨[b], fun x hx => by simp only [List.mem_singleton] at hx; subst hx; exact ⟨_, hB1⟩, ?_⟩
          have hcap := ho1.le
          refine InC.intro i rfl (by omega) ⟨List.mem_singleton.2 rfl, M.now, h1.time, InC.intro i rfl hi ?_⟩
          rw [wrap_id (by omega) (by omega)]
          refine NewW.intro fun w hw => ?_
          have kw : Keep Nil H1 (H1.upd w (.cells ⟨[]⟩ T_ref04_Timer (0, 0))) := (Keep.refl _ _).new hw
          have hW : Blk (H1.upd w (.cells ⟨[]⟩ T_ref04_Timer (0, 0))) w T_ref04_Timer ⟨[]⟩ := Blk.upd_eq
          generalize H1.upd w (.cells ⟨[]⟩ T_ref04_Timer (0, 0)) = H7 at kw hW
          refine NewW.intro fun u hu => ?_
          have ku : Keep Nil H7 (H7.upd u (.cells ⟨[.int .i64 k, .int .i64 (M.now + n)]⟩ T_ref04_Timer (0, 0))) := (Keep.refl _ _).new hu
          have hU : Blk (H7.upd u (.cells ⟨[.int .i64 k, .int .i64 (M.now + n)]⟩ T_ref04_Timer (0, 0))) u T_ref04_Timer ⟨[.int .i64 k, .int .i64 (M.now + n)]⟩ := Blk.upd_eq
          generalize H7.upd u (.cells ⟨[.int .i64 k, .int .i64 (M.now + n)]⟩ T_ref04_Timer (0, 0)) = H8 at ku hU
          have k8 : Keep Nil H1 H8 := kw.trans ku
          have hO8 : Sh.Own H1 H8 (some ⟨w, 0, none⟩) 0 0 2 T_ref04_Timer [] := (Sh.Own.start hw hW).keep ku fun _ _ h => h
          obtain ⟨it, hit, hsz, hby⟩ := row_rtimer.info
          have hr1 := ho1.reads
          have hpt : prs ((wo M.L k).take i) = (prs (wo M.L k)).take (i * 2) := by
            have e1 : prs (wo M.L k) = prs ((wo M.L k).take i) ++ prs ((wo M.L k).drop i) := by rw [← prs_append, List.take_append_drop]
            have e2 : (prs ((wo M.L k).take i)).length = i * 2 := by rw [prs_length, List.length_take]; omega
            rw [e1, ← e2, List.take_left]
          have hpd : prs ((wo M.L k).drop i) = (prs (wo M.L k)).drop (i * 2) := by
            have e1 : prs (wo M.L k) = prs ((wo M.L k).take i) ++ prs ((wo M.L k).drop i) := by rw [← prs_append, List.take_append_drop]
            have e2 : (prs ((wo M.L k).take i)).length = i * 2 := by rw [prs_length, List.length_take]; omega
            rw [e1, ← e2, List.drop_left]
          have hread1 : ∀ {Hx}, Keep Nil H1 Hx → Reads Hx a1 (i * 2) (prs ((wo M.L k).take i)) := fun kx => by
            rw [hpt]
            exact (hr1.keep kx fun _ _ h => h).take (by omega)
          refine own_append2 (H0 := H1) (S := Nil) und_sl_rtimer und_sl_rtimer hit hsz hby (by omega) row_rtimer.zero rfl hO8 k8 (new := prs ((wo M.L k).take i)) (hread1 k8) (prs_plain _) (by omega) fun a2 cap2 H9 _ ho9 hn9 k9 kk9 => ?_
          refine ⟨_, _, _, rfl, keptIn_nil kk9 hB1, ?_⟩
          have hu9 : u ≠ w := fun e => by subst e; exact hW.some hu
          have hU9 : Blk H9 u T_ref04_Timer ⟨[.int .i64 k, .int .i64 (M.now + n)]⟩ := k9.blk hU fun e => by cases e; exact hu9 rfl
          rw [List.nil_append, Nat.zero_add] at ho9
          rw [Nat.zero_add]
          refine own_append2 (H0 := H1) (S := Nil) und_sl_rtimer und_sl_rtimer hit hsz hby (by omega) row_rtimer.zero rfl ho9 kk9 (new := [.int .i64 k, .int .i64 (M.now + n)]) (Reads.blk hU9 rfl fun j hj => by rw [Nat.zero_add]; simp)
            (by intro v hv; simp only [List.mem_cons, List.not_mem_nil, or_false] at hv; rcases hv with rfl | rfl <;> rfl) (by omega) fun a3 cap3 H10 _ ho10 hn10 k10 kk10 => ?_
          refine ⟨_, _, _, rfl, keptIn_nil kk10 hB1, ?_⟩
          have hread2 : Reads H10 (if cap1 = i then a1 else Option.map (fun a => Addr.add a (i * 2)) a1) (((wo M.L k).length - i) * 2) (prs ((wo M.L k).drop i)) := by
            have ho10' := ho1.keep kk10 fun _ _ h => h
            by_cases e : (wo M.L k).length = i
            · rw [show (wo M.L k).length - i = 0 by omega, List.drop_of_length_le (by omega)]
              rw [Nat.zero_mul]
              exact reads0
            · obtain ⟨m, hm'⟩ := ho10'.addr (by omega)
              subst hm'
              rw [if_neg (by omega), addr_map]
              obtain ⟨_, cc, hBB, hcs, hcc⟩ := own_blk ho10'
              refine Reads.blk hBB (by rw [prs_length, List.length_drop]) fun j hj => ?_
              rw [hpd, List.getElem?_drop, hcc _ (by omega)]
              congr 1; omega
          refine own_append2 (H0 := H1) (S := Nil) und_sl_rtimer und_sl_rtimer hit hsz hby (by omega) row_rtimer.zero rfl ho10 kk10 (new := prs ((wo M.L k).drop i)) hread2 (prs_plain _) (by omega) fun a4 cap4 H11 _ ho11 hn11 k11 kk11 => ?_
          refine ⟨_, _, _, rfl, keptIn_nil kk11 hB1, ?_⟩
          have h11 := h1.keep kk11 fun _ _ h => h
          have hb4 : ∀ x, a4 = some ⟨x, 0, none⟩ → x ≠ b := fun x hx e => by subst e; exact hB1.some (ho11.free hx)
          have hll : i + 1 + ((wo M.L k).length - i) = (insL M.L k (M.now + n)).length := by rw [len_ins]; omega
          rw [hll] at ho11 ⊢
          have hpp : prs ((wo M.L k).take i) ++ [.int .i64 k, .int .i64 (M.now + n)] ++ prs ((wo M.L k).drop i) = prs (insL M.L k (M.now + n)) := by
            unfold insL
            rw [hlow.1, hlow.2, prs_append]
            show _ = _ ++ ([.int .i64 k, .int .i64 (M.now + n)] ++ prs ((wo M.L k).drop i))
            rw [List.append_assoc]
          rw [hpp] at ho11
          refine StCell.blk h11.blk (by simp) rfl ?_
          have k12 : Keep (fun x => x = b) H11 (H11.upd b (.cells ((⟨[.slice a M.L.length cap, .int .i64 M.now]⟩ : Array Value).setIfInBounds 0 (.slice a4 (insL M.L k (M.now + n)).length cap4)) T_ref04_Wheel (0, 0))) := (Keep.refl _ _).upd (.inl rfl)
          have hB12 : Blk (H11.upd b (.cells ((⟨[.slice a M.L.length cap, .int .i64 M.now]⟩ : Array Value).setIfInBounds 0 (.slice a4 (insL M.L k (M.now + n)).length cap4)) T_ref04_Wheel (0, 0))) b T_ref04_Wheel ⟨[.slice a4 (insL M.L k (M.now + n)).length cap4, .int .i64 M.now]⟩ := Blk.upd_eq
          generalize H11.upd b (.cells ((⟨[.slice a M.L.length cap, .int .i64 M.now]⟩ : Array Value).setIfInBounds 0 (.slice a4 (insL M.L k (M.now + n)).length cap4)) T_ref04_Wheel (0, 0)) = H12 at k12 hB12
          have hR : RRep H12 b (insL M.L k (M.now + n)) M.now a4 cap4 := ⟨up_ins h.up _ _, len_ins_le h.up hlen hf, fun e he => by
            rcases mem_ins.1 he with rfl | he
            · exact ⟨by show 0 ≤ M.now + n; omega, by show M.now + n ≤ maxT; unfold maxT; omega⟩
            · exact h.pos e he.1, hB12, (ho11.keep k12 hb4).toEmp⟩
          have kk : Keep (Gt b a) H H12 := ((k1.mono fun _ h => h.elim).trans (kk11.mono fun _ h => h.elim)).trans (k12.mono fun x hx => .inl hx)
          refine fun H2 hs => ⟨rfl, _, ⟨a4, cap4, hR.shut hs, rfl⟩, shutS kk hs, fun x hx => ?_⟩
          rcases hx with rfl | hx
          · exact .inl (.inl rfl)
          · exact .inr (k1.free (ho11.free hx))
        by_cases hlt : i < (wo M.L k).length
        · rw [decide_eq_true (by omega), IfB_true]
          obtain ⟨m, rfl⟩ := ho1.addr (by omega)
          obtain ⟨c0, c1⟩ := own_pair ho1 hlt
          refine NilP.intro _ rfl (InB.intro i rfl hlt ?_)
          rw [elemAt_none]
          refine ⟨_, c0, ?_⟩
          by_cases hk : ((wo M.L k)[i]).1 < k
          · rw [decide_eq_true hk]
            unfold ref04_Wheel_Set_j2
            rw [IfB_true, wrap_id (by omega) (by omega)]
            refine ⟨(wo M.L k).length - (i + 1), by omega, i + 1, by simp, by omega, rfl, rfl, ?_⟩
            rw [List.take_succ_eq_append_getElem hlt, List.filter_append, ← hpre, List.filter_cons_of_pos (by simpa using hk)]; rfl
          · rw [decide_eq_false hk]
            refine fin _ _ rfl fun e he => ?_
            rw [List.drop_eq_getElem_cons hlt] at he
            rcases List.mem_cons.1 he with rfl | he
            · omega
            · have hu : Up ((wo M.L k).drop i) := (up_wo h.up k).sublist (List.drop_sublist _ _)
              rw [List.drop_eq_getElem_cons hlt, Up, List.pairwise_cons] at hu
              have := hu.1 e he
              omega
        · rw [decide_eq_false (by omega), IfB_false]
          refine fin _ _ rfl fun e he => ?_
          rw [List.drop_of_length_le (by omega)] at he; cases he
      cases hd : dueL k M.L with
      | some t =>
        rw [show ((some t : Option Int).isSome) = true from rfl, Bool.not_true, IfB_false]
        exact go (by rw [hd]; simp)
      | none =>
        rw [show ((none : Option Int).isSome) = false from rfl, Bool.not_false, IfB_true]
        refine ⟨_, _, _, h.head, ?_⟩
        by_cases hf : M.L.length = 256
        · rw [decide_eq_true (by omega)]
          unfold ref04_Wheel_Set_j1 WM.set
          rw [IfB_true, hm, hd]
          simp only [Bool.true_eq_false, if_false, hf, and_self, if_true]
          exact fun H2 hs => ⟨by simp, _, ⟨a, cap, by simpa using h.shut hs, rfl⟩, shutS (Keep.refl _ _) hs, fun x hx => .inl hx⟩
        · rw [decide_eq_false (by omega)]
          exact go (by rw [hd]; simp [hf])
end
end Go.Proofs.Ytdhjglkacnhhcaa
