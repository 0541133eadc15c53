/-
  Layer 15 over the heap: what may go out goes out.
  Layer 15 over the heap: calls: what is said again, written, read, ended, broken off.
  Layer 15 over the heap: calls: what is written, read, ended, broken off; how connections begin.
  Layer 15 over the heap: what a segment's acknowledgement, data and end come to.
  Layer 15 over the heap: a segment's data, and segments in SYN sent.
  Layer 15 over the heap: segments are taken.
  Layer 15 over the heap: connections begin; what they tell.
  Layer 15 over the heap: regions that are apart; small helpers of the law.
  Layer 15 over the heap: two that talk: how the law keeps them.
  Layer 15 over the heap: two that talk: segments are put on their way.
  Layer 15 over the heap: two that talk: what was written, and read.
  Layer 15 over the heap: two that talk: turns.
  Layer 15 over the heap: two that talk: time goes on, something comes in.
  Layer 15 over the heap: two that talk: something comes in.
  Layer 15 over the heap: two that talk: a turn.
  Layer 15 over the heap: what was read fits; two begin; the law.
  Layer 15 over the heap: two begin; the law.
  Turns that are handed in: what their cells hold.
  Layer 15 over the heap: the document's connection begins, and is broken off; a closed connection says nothing.
  Layer 15 over the heap: a connection that is closed says nothing.
  Acts that are handed in: what their cells hold.
-/
import Derived.Test.YtmiepjlnfclelaaGreatCA
import Derived.Test.YtmiepjlnfclelaaGreatItsL
import Derived.Test.YtmiepjlnfclelaaGreatCP
import Derived.Test.YtmiepjlnfclelaaGreatLift
import Derived.Deep.Slices
import Derived.Test.YtmiepjlnfclelaaGreatItsS
section
set_option linter.all false
set_option maxRecDepth 100000
namespace Go.Proofs.YtmiepjlnfclelaaGreat
open Go.Sh Go.Pc Go.Conn
section
variable {H0 H H' : Heap} {F0 : Nat → Prop} {cb gc : Nat} {p : CP} {c : Cn} {now due : Int} {ga : Option Addr} {xs : List (Sg × Option Addr × Nat)} {l : List Sg}
theorem dead_ok (h : c.Ok) : ({ c with st := 0 } : Cn).Ok := ⟨Nat.zero_le _, h.first, h.una, h.len, h.sent, h.win, h.big, h.tries, h.inn, fun (x : 2 ≤ 0) => absurd x (by decide), h.got⟩
theorem tries_ok (h : c.Ok) {n : Nat} (hn : n ≤ 8) : ({ c with tries := n } : Cn).Ok := ⟨h.st, h.first, h.una, h.len, h.sent, h.win, h.big, hn, h.inn, h.some, h.got⟩
theorem sent_ok (h : c.Ok) {n : Nat} (hn : n ≤ c.data.length) : ({ c with sent := n } : Cn).Ok := ⟨h.st, h.first, h.una, h.len, hn, h.win, h.big, h.tries, h.inn, h.some, h.got⟩
theorem cn_die (h : CIn H0 F0 H cb c now due l) : FnW Tryz.prog f_conn_Conn_die ⟨[.pointer (some ⟨cb, 0, none⟩)]⟩ H fun v H' => v = .tuple ⟨[]⟩ ∧ CIn H0 F0 H' cb { c with st := 0 } now due l := by
  refine conn_Conn_die_sh cb ?_
  unfold conn_Conn_die_p
  obtain ⟨p, ga, gc, xs, h, rfl⟩ := h
  exact stL h.rep.blk (by simp [cnL]) rfl fun H1 b1 k1 => fun H2 hs => ⟨rfl, p, ga, gc, xs, (h.put (c' := { c with st := 0 }) k1 b1 (dead_ok h.rep.ok) rfl rfl h.rep.le).shut (S := F0) h.keep hs, rfl⟩
theorem cn_lost (h : CIn H0 F0 H cb c now due l) : FnW Tryz.prog f_conn_Conn_lost ⟨[.pointer (some ⟨cb, 0, none⟩)]⟩ H fun v H' => v = .int .i64 151 ∧ CIn H0 F0 H' cb { c with st := 0 } now due [] := by
  refine conn_Conn_lost_sh cb ?_
  unfold conn_Conn_lost_p
  have h0 := h
  refine (cn_die h).mono ?_
  rintro _ H1 ⟨rfl, p, ga, gc, xs, h, e⟩
  refine ⟨rfl, stL h.rep.blk (by simp [cnL]) rfl fun H2 b2 k2 => fun H3 hs => ⟨rfl, p, none, 0, [], CX.shut (S := F0) ⟨h.rep.put k2 b2 h.rep.ok rfl rfl h.rep.le, h.kcb k2, h.sub, Outs.nil⟩ h0.keep hs, rfl⟩⟩
/-- The estimate is good. -/
theorem CX.good {H' : Heap} (h : CX H0 F0 H cb p ga gc c now due xs) {n : Nat} (hn : n ≤ 8) (he : EAt H' p.eb n) (k : Keep (fun x => x = p.eb) H H') : CX H0 F0 H' cb { p with da := p.da, dc := p.dc, onow := p.onow } ga gc { c with tries := n } now due xs := by
  have hne := h.rep.out.ne
  obtain ⟨on, unt, frm, hu, hb⟩ := h.rep.out.blk
  have ok := tries_ok h.rep.ok hn
  refine h.outT (da' := p.da) (dc' := p.dc) (onow' := p.onow) (c' := { c with tries := n }) ⟨⟨ok.una, ok.len, ok.sent, ok.win, ok.big, ok.tries⟩, ⟨on, unt, frm, hu, k.blk hb hne.1⟩, he, h.rep.out.data.keep k fun x hx e => hne.2.2 (e ▸ hx)⟩ (OStep.est k) ok h.rep.le (fun _ => rfl) rfl
theorem CX.dueT {due' : Int} (h : CX H0 F0 H cb p ga gc c now due xs) (k : Keep (fun x => x = cb) H H') (hb : Blk H' cb T_conn_Conn ⟨cnL c p.ob p.ip now due' ga xs.length gc⟩) : CX H0 F0 H' cb p ga gc c now due' xs :=
  h.put k hb h.rep.ok rfl rfl h.rep.le
theorem cn_news (h : CIn H0 F0 H cb c now due l) : FnW Tryz.prog f_conn_Conn_news ⟨[.pointer (some ⟨cb, 0, none⟩)]⟩ H fun v H' => v = .tuple ⟨[]⟩ ∧ CIn H0 F0 H' cb c.news now (-1) l := by
  refine conn_Conn_news_sh cb ?_
  unfold conn_Conn_news_p
  obtain ⟨p, ga, gc, xs, h, rfl⟩ := h
  refine stL h.rep.blk (by simp [cnL]) rfl fun H1 b1 k1 => ?_
  have h1 := h.dueT (due' := -1) k1 b1
  obtain ⟨on, unt, frm, hu, hb⟩ := h1.rep.out.blk
  refine ⟨_, cellL h1.rep.blk 4 rfl, NilP.intro _ rfl ⟨_, cellL hb 0 rfl, (est_Good h1.rep.out.est).mono ?_⟩⟩
  rintro _ H2 ⟨rfl, e2, k2⟩
  exact ⟨rfl, fun H3 hs => ⟨rfl, _, ga, gc, xs, (h1.good (n := 0) (by omega) e2 k2).shut (S := F0) h.keep hs, rfl⟩⟩
theorem cn_rest (h : CIn H0 F0 H cb c now due l) (hi : c.inn ≠ none) : FnW Tryz.prog f_conn_Conn_rest ⟨[.pointer (some ⟨cb, 0, none⟩)]⟩ H fun v H' => v = .tuple ⟨[]⟩ ∧ ∃ due', CIn H0 F0 H' cb { c with st := 9 } now due' l := by
  refine conn_Conn_rest_sh cb ?_
  unfold conn_Conn_rest_p
  obtain ⟨p, ga, gc, xs, h, rfl⟩ := h
  have ok := h.rep.ok
  refine ⟨_, cellL h.rep.blk 10 rfl, stL h.rep.blk (by simp [cnL]) rfl fun H1 b1 k1 => stL b1 (by simp [cnL]) rfl fun H2 b2 k2 => fun H3 hs => ⟨rfl, _, p, ga, gc, xs, (h.put (c' := { c with st := 9 }) (k1.trans k2) b2 ⟨Nat.le_refl 9, ok.first, ok.una, ok.len, ok.sent, ok.win, ok.big, ok.tries, ok.inn, fun _ => hi, ok.got⟩ rfl rfl h.rep.le).shut (S := F0) h.keep hs, rfl⟩⟩
/-- Is anything open? -/
def Cn_open (c : Cn) : Bool := decide (c.st = 1) || decide (c.st = 2) || (c.bye && !c.sure) || (decide (c.win = 0) && decide (0 < c.data.length)) || decide (0 < c.sent)
theorem cn_open {gn : Nat} (h : CRep H cb p c now due ga gn gc) : FnW Tryz.prog f_conn_Conn_open ⟨[.pointer (some ⟨cb, 0, none⟩)]⟩ H fun v H' => (∃ b, v = .bool b) ∧ H' = H := by
  refine conn_Conn_open_sh cb ?_
  unfold conn_Conn_open_p
  have fin : ∀ (b : Bool) H2, Shut H H H2 → (∃ b', Value.bool b = .bool b') ∧ H2 = H := fun b H2 hs => ⟨⟨_, rfl⟩, (shutE0 hs).symm⟩
  have j2 : ∀ x, conn_Conn_open_j2 cb x H fun v H1 => ∀ H2, Shut H H1 H2 → (∃ b, v = .bool b) ∧ H2 = H := by
    intro x
    unfold conn_Conn_open_j2
    refine IfB.intro (fun _ => fin _) fun _ => ⟨_, cellL h.blk 4 rfl, (out_Flight h.out).mono ?_⟩
    rintro _ _ ⟨rfl, e⟩
    rw [e]
    exact ⟨_, rfl, fin _⟩
  have j1 : ∀ x, conn_Conn_open_j1 cb x H fun v H1 => ∀ H2, Shut H H1 H2 → (∃ b, v = .bool b) ∧ H2 = H := by
    intro x
    unfold conn_Conn_open_j1
    refine IfB.intro (fun _ => fin _) fun _ => ⟨_, cellL h.blk 4 rfl, (out_Window h.out).mono ?_⟩
    rintro _ _ ⟨rfl, e⟩
    rw [e]
    refine ⟨_, rfl, IfB.intro (fun _ => ⟨_, cellL h.blk 4 rfl, (out_Queued h.out).mono ?_⟩) fun _ => j2 _⟩
    rintro _ _ ⟨rfl, e⟩
    rw [e]
    exact ⟨_, rfl, j2 _⟩
  have j0 : ∀ x, conn_Conn_open_j0 cb x H fun v H1 => ∀ H2, Shut H H1 H2 → (∃ b, v = .bool b) ∧ H2 = H := by
    intro x
    unfold conn_Conn_open_j0
    exact IfB.intro (fun _ => fin _) fun _ => ⟨_, cellL h.blk 7 rfl, IfB.intro (fun _ => ⟨_, cellL h.blk 8 rfl, j1 _⟩) fun _ => j1 _⟩
  exact ⟨_, cellL h.blk 0 rfl, IfB.intro (fun _ => j0 _) fun _ => ⟨_, cellL h.blk 0 rfl, j0 _⟩⟩
/-- What a call leaves. -/
structure Left (H0 : Heap) (F0 : Nat → Prop) (H : Heap) (cb : Nat) (c : Cn) (now : Int) (v : Value) (l : List Sg) : Prop where
  ex : ∃ p now' due ga gc xs, v = .slice ga xs.length gc ∧ xs.map (·.1) = l ∧ now' ≤ now ∧ CRep H cb p c now' due none 0 0 ∧ (c.st = 0 → due = -1) ∧ Keep F0 H0 H ∧ (∀ y, p.F cb y → F0 y ∨ H0 y = none) ∧ Outs H0 H (p.F cb) ga gc xs
theorem cn_done (h : CIn H0 F0 H cb c now due l) : FnW Tryz.prog f_conn_Conn_done ⟨[.pointer (some ⟨cb, 0, none⟩)]⟩ H fun v H' => Left H0 F0 H' cb c now v l := by
  refine conn_Conn_done_sh cb ?_
  unfold conn_Conn_done_p
  have h0 := h
  obtain ⟨p, ga, gc, xs, h, rfl⟩ := h
  have j0 : ∀ (H1 : Heap) (due' : Int), (c.st = 0 → due' = -1) → CX H0 F0 H1 cb p ga gc c now due' xs → conn_Conn_done_j0 cb H1 fun v H1 => ∀ H2, Shut H H1 H2 → Left H0 F0 H2 cb c now v (xs.map (·.1)) := by
    intro H1 due' hd h1
    unfold conn_Conn_done_j0
    refine ⟨_, _, _, cellL h1.rep.blk 12 rfl, stL h1.rep.blk (by simp [cnL]) rfl fun H2 b2 k2 => fun H3 hs => ⟨p, now, due', ga, gc, xs, rfl, rfl, Int.le_refl _, ?_, hd, ?_, h.sub, ?_⟩⟩
    · exact (h1.rep.put k2 b2 h1.rep.ok rfl rfl h1.rep.le).shut hs
    · exact shutKS2 h.keep (h1.kcb k2) hs
    · exact (h1.outs.step k2 (fun y hy => .inl (.inl hy)) fun y h => .inl h).shut hs
  have j1 : ∀ x, (x = false → c.st ≠ 0) → conn_Conn_done_j1 cb x H fun v H1 => ∀ H2, Shut H H1 H2 → Left H0 F0 H2 cb c now v (xs.map (·.1)) := by
    intro x hx
    unfold conn_Conn_done_j1
    refine IfB.intro (fun _ => stL h.rep.blk (by simp [cnL]) rfl fun H1 b1 k1 => j0 H1 (-1) (fun _ => rfl) (h.dueT k1 b1)) fun e => ?_
    refine ⟨_, cellL h.rep.blk 11 rfl, IfB.intro (fun _ => ?_) fun _ => j0 H due (fun z => absurd z (hx e)) h⟩
    obtain ⟨kp1, kp2⟩ := kept_one h.rep.blk.some
    refine ⟨[cb], kp1, List.mem_singleton.2 rfl, _, cellL h.rep.blk 10 rfl, _, cellL h.rep.blk 4 rfl, (out_Wait h.rep.out).mono ?_⟩
    rintro _ _ ⟨⟨n, rfl⟩, e2⟩
    rw [e2]
    exact ⟨_, rfl, kp2, stL h.rep.blk (by simp [cnL]) rfl fun H1 b1 k1 => j0 H1 _ (fun z => absurd z (hx e)) (h.dueT k1 b1)⟩
  refine ⟨_, cellL h.rep.blk 0 rfl, IfB.intro (fun e => j0 H due (fun z => ?_) h) fun e => ⟨_, cellL h.rep.blk 0 rfl, IfB.intro (fun e2 => j1 true fun z => by cases z) fun e2 => (cn_open h.rep).mono ?_⟩⟩
  · rw [z] at e; cases e
  · rintro _ _ ⟨⟨b, rfl⟩, e3⟩
    rw [e3]
    refine ⟨_, rfl, j1 _ fun _ z => ?_⟩
    rw [z] at e2; cases e2

/-! ### What may go out goes out -/
theorem fresh_seg {u : Value} {d : List Int} (h : CX H0 F0 H cb p ga gc c now due xs) (hk : Keep F0 H0 H) (hF : ∀ y, p.F cb y → H y ≠ none) (f : Fresh H H' u d) : ∃ a cap, u = .slice a d.length cap ∧ ∀ s : Sg, s.data = d → s.seq < 4294967296 → s.ack < 4294967296 → SegD H0 H' (p.F cb) (s, a, cap) := by
  obtain ⟨a, cap, rfl, o⟩ := f
  refine ⟨a, cap, rfl, fun s hs h1 h2 => ⟨h1, h2, ?_, fun x hx => ?_⟩⟩
  · show Reads H' a s.data.length (bv s.data)
    rw [hs]
    have := o.reads
    rwa [Nat.mul_one] at this
  · have hx : a = some x := hx
    rcases o.2.2 with ⟨e, _⟩ | ⟨m, rest, e, h0, hB, _⟩
    · rw [e] at hx; cases hx
    · rw [e] at hx; cases hx
      exact ⟨hk.free h0, fun hy => hF m hy h0, _, hB⟩
theorem sends_step {f : Nat} {c : Cn} (h : c.may ≠ 0) : Cn.sends (f + 1) c = (c.piece c.may :: (Cn.sends f { c with sent := c.sent + c.may }).1, (Cn.sends f { c with sent := c.sent + c.may }).2) := by
  show (if c.may = 0 then _ else _) = _
  rw [if_neg h]
theorem sends_stop {f : Nat} {c : Cn} (h : c.may = 0) : Cn.sends f c = ([], c) := by
  cases f with
  | zero => rfl
  | succ f =>
    show (if c.may = 0 then _ else _) = _
    rw [if_pos h]
theorem cn_flush (h : CIn H0 F0 H cb c now due l) (hl : l.length ≤ 1000) : FnW Tryz.prog f_conn_Conn_flush ⟨[.pointer (some ⟨cb, 0, none⟩)]⟩ H fun v H' => v = .tuple ⟨[]⟩ ∧ CIn H0 F0 H' cb c.flush.2 now due (l ++ c.flush.1) := by
  refine conn_Conn_flush_sh cb ?_
  unfold conn_Conn_flush_p
  have h00 := h
  have hok : c.Ok := by obtain ⟨p, ga, gc, xs, h, e⟩ := h; exact h.rep.ok
  have hst : ∃ due p, ∃ ga gn gc, CRep H cb p c now due ga gn gc := by obtain ⟨p, ga, gc, xs, h, e⟩ := h; exact ⟨_, _, _, _, _, h.rep⟩
  have hlen := hok.len
  have hsent := hok.sent
  -- the loop
  have loop : (c.st = 3 ∨ c.st = 4 ∨ c.st = 6 ∨ c.st = 7 ∨ c.st = 8) → conn_Conn_flush_j1 cb H fun v H1 => ∀ H2, Shut H H1 H2 → v = .tuple ⟨[]⟩ ∧ CIn H0 F0 H2 cb c.flush.2 now due (l ++ c.flush.1) := by
    intro hc
    have hfl : c.flush = ((c.sends 4097).1 ++ (c.sends 4097).2.byes.1, (c.sends 4097).2.byes.2) := by unfold Cn.flush; rw [if_pos hc]
    rw [hfl]
    unfold conn_Conn_flush_j1
    refine loopI (fun k _ H1 => ∃ (c1 : Cn) (l1 : List Sg), CIn H0 F0 H1 cb c1 now due (l ++ l1) ∧ c1.data = c.data ∧ c1.data.length - c1.sent < k ∧ l1.length + k ≤ 4097 ∧ (c.sends 4097).1 = l1 ++ (c1.sends k).1 ∧ (c.sends 4097).2 = (c1.sends k).2) 4097 ⟨c, [], by rw [List.append_nil]; exact h00, rfl, by omega, Nat.le_refl _, rfl, rfl⟩ ?_
    rintro k _ H1 ⟨c1, l1, h1, hd, hk, hlk, e1, e2⟩ g
    have h10 := h1
    obtain ⟨p, ga, gc, xs, h1, ex⟩ := h1
    have ok1 := h1.rep.ok
    unfold conn_Conn_flush_l6
    refine ⟨_, cellL h1.rep.blk 4 rfl, _, cellL h1.rep.blk 10 rfl, (out_Send h1.rep.out h1.rep.le).mono ?_⟩
    have hmay : Ob_may c1.ob = c1.may := rfl
    rintro _ H2 (⟨h0, rfl, ho, s2⟩ | ⟨h0, u, rfl, fu, ho, s2⟩)
    · refine ⟨_, _, _, _, _, rfl, ifT rfl ?_⟩
      have h2 := h1.outT (c' := c1) ho s2 ok1 (Int.le_refl _) (fun _ => rfl) rfl
      have hm : c1.may = 0 := h0
      rw [sends_stop hm] at e1 e2
      simp only [List.append_nil] at e1
      rw [e1, e2]
      have h20 : CIn H0 F0 H2 cb c1 now due (l ++ l1) := ⟨_, ga, gc, xs, h2, ex⟩
      obtain ⟨kp1, kp2⟩ := kept_one h2.rep.blk.some
      have no : c1.byes = ([], c1) → ∀ H3, Shut H H2 H3 → Value.tuple ⟨[]⟩ = Value.tuple ⟨[]⟩ ∧ CIn H0 F0 H3 cb c1.byes.2 now due (l ++ (l1 ++ c1.byes.1)) := fun e H3 hs => by
        rw [e]
        refine ⟨rfl, ?_⟩
        have := h20.shut h00.keep hs
        simpa using this
      refine ⟨[cb], kp1, _, cellL h2.rep.blk 6 rfl, IfB.intro (fun es => ⟨_, cellL h2.rep.blk 7 rfl, IfB.intro (fun eb => ⟨_, cellL h2.rep.blk 4 rfl, List.mem_singleton.2 rfl, _, cellL h2.rep.blk 4 rfl, (out_Flight h2.rep.out).mono ?_⟩) fun eb => ?_⟩) fun es => ?_⟩
      · rintro _ _ ⟨rfl, e⟩
        rw [e]
        refine ⟨_, rfl, kp2, (out_Queued h2.rep.out).mono ?_⟩
        rintro _ _ ⟨rfl, e⟩
        rw [e]
        refine ⟨_, rfl, ?_⟩
        unfold conn_Conn_flush_j2
        have hsh : c1.shut = true := es
        have hby : c1.bye = false := by cases hb : c1.bye with
          | false => rfl
          | true => rw [hb] at eb; cases eb
        refine IfB.intro (fun eq => (cn_bye h20 (by rw [List.length_append]; omega)).mono ?_) fun eq => no ?_
        · have eq : (c1.sent : Int) = (c1.data.length : Int) := eq_of_beq eq
          rintro _ H3 ⟨rfl, p3, ga3, gc3, xs3, h3, ex3⟩
          have hby2 : c1.byes = ([c1.fin], { c1 with bye := true }) := by
            unfold Cn.byes
            rw [hsh, hby, if_pos (by simp; omega)]
          have ok3 := h3.rep.ok
          refine ⟨rfl, stL h3.rep.blk (by simp [cnL]) rfl fun H4 b4 k4 => fun H5 hs => ⟨rfl, ?_⟩⟩
          rw [hby2]
          refine CIn.shut ⟨p3, ga3, gc3, xs3, h3.put (c' := { c1 with bye := true }) k4 b4 ⟨ok3.st, ok3.first, ok3.una, ok3.len, ok3.sent, ok3.win, ok3.big, ok3.tries, ok3.inn, ok3.some, ok3.got⟩ rfl rfl h3.rep.le, ?_⟩ h00.keep hs
          rw [ex3]; simp
        · have eq : ¬ (c1.sent : Int) = (c1.data.length : Int) := fun e => (by have := beq_iff_eq.2 e; rw [show (((c1.ob.sent : Nat) : Int) == ((c1.ob.data.length : Nat) : Int)) = true from this] at eq; cases eq)
          unfold Cn.byes
          rw [if_neg]
          simp; intro _ _; omega
      · unfold conn_Conn_flush_j2
        have hby : c1.bye = true := by cases hb : c1.bye with
          | true => rfl
          | false => rw [hb] at eb; cases eb
        exact ifF rfl (no (by unfold Cn.byes; rw [hby]; simp))
      · unfold conn_Conn_flush_j2
        have hsh : c1.shut = false := es
        exact ifF rfl (no (by unfold Cn.byes; rw [hsh]; simp))
    · have hm : c1.may ≠ 0 := by rw [← hmay]; omega
      have hml := Cn.may_le c1 ok1.sent
      obtain ⟨a, cap, rfl, hseg⟩ := fresh_seg h1 h1.keep (fun y hy => h1.rep.live hy) fu
      refine ⟨_, _, _, _, _, rfl, ifF rfl ?_⟩
      have hs2 : c1.sent + c1.may ≤ c1.data.length := hml
      have h2 := h1.outT (c' := { c1 with sent := c1.sent + c1.may }) ho s2 (sent_ok ok1 hs2) (Int.le_refl _) (fun _ => rfl) rfl
      have hpl : ((c1.data.drop c1.sent).take c1.may).length = (List.take (Ob_may c1.ob) (List.drop c1.ob.sent c1.ob.data)).length := rfl
      obtain ⟨k', rfl⟩ : ∃ k', k = k' + 1 := ⟨k - 1, by omega⟩
      rw [sends_step hm] at e1 e2
      simp only at e1 e2
      refine (cn_say h2 (d := (c1.data.drop c1.sent).take c1.may) (show c1.onext < 4294967296 from addN_lt _ _) hpl ?_ ?_).mono ?_
      · exact hseg _ rfl (show c1.onext < 4294967296 from addN_lt _ _) (wants_lt h1.rep.inn)
      · have := congrArg List.length ex
        simp at this
        omega
      · rintro _ H3 ⟨gb, gc', rfl, h3⟩
        refine ⟨_, rfl, k', by omega, _, l1 ++ [c1.piece c1.may], ⟨_, _, gc', _, h3, ?_⟩, hd, ?_, by simp; omega, by rw [e1]; simp, e2⟩
        · rw [List.map_append, ex]; simp; rfl
        · show c1.data.length - (c1.sent + c1.may) < k'
          omega
  obtain ⟨_, _, _, _, _, hr⟩ := hst
  have none_ : ¬ (c.st = 3 ∨ c.st = 4 ∨ c.st = 6 ∨ c.st = 7 ∨ c.st = 8) → ∀ H2, Shut H H H2 → Value.tuple ⟨[]⟩ = Value.tuple ⟨[]⟩ ∧ CIn H0 F0 H2 cb c.flush.2 now due (l ++ c.flush.1) := fun hc H2 hs => by
    have : c.flush = ([], c) := by unfold Cn.flush; rw [if_neg hc]
    rw [this, List.append_nil]
    exact ⟨rfl, h00.shut h00.keep hs⟩
  refine ⟨_, cellL hr.blk 0 rfl, ?_⟩
  unfold conn_Conn_flush_j0
  refine IfB.intro (fun e => ifT e (loop (by have : (c.st : Int) = 3 := by simpa using e
                                             omega))) fun e3 => IfB.intro (fun e => ifT e (loop (by have : (c.st : Int) = 4 := by simpa using e
                                                                                                    omega))) fun e4 => IfB.intro (fun e => ifT e (loop (by have : (c.st : Int) = 6 := by simpa using e
                                                                                                                                                           omega))) fun e6 => IfB.intro (fun e => ifT e (loop (by have : (c.st : Int) = 7 := by simpa using e
                                                                                                                                                                                                                  omega))) fun e7 => IfB.intro (fun e => loop (by have : (c.st : Int) = 8 := by simpa using e
                                                                                                                                                                                                                                                                  omega)) fun e8 => none_ ?_
  have a3 : ¬ (c.st : Int) = 3 := by simpa using e3
  have a4 : ¬ (c.st : Int) = 4 := by simpa using e4
  have a6 : ¬ (c.st : Int) = 6 := by simpa using e6
  have a7 : ¬ (c.st : Int) = 7 := by simpa using e7
  have a8 : ¬ (c.st : Int) = 8 := by simpa using e8
  omega
end
end Go.Proofs.YtmiepjlnfclelaaGreat
end

section
set_option linter.all false
set_option maxRecDepth 100000
namespace Go.Proofs.YtmiepjlnfclelaaGreat
open Go.Sh Go.Pc Go.Conn
/-- A connection between calls; its clock stands at t at most. -/
structure CAt (H : Heap) (cb : Nat) (F : Nat → Prop) (c : Cn) (t : Int) : Prop where
  ex : ∃ p now due, CRep H cb p c now due none 0 0 ∧ now ≤ t ∧ (c.st = 0 → due = -1) ∧ p.F cb = F
section
variable {H0 H H' : Heap} {F0 F : Nat → Prop} {cb gc : Nat} {p : CP} {c : Cn} {now due t : Int} {ga : Option Addr} {xs : List (Sg × Option Addr × Nat)} {l : List Sg}
theorem CRep.cx (h : CRep H cb p c now due none 0 0) : CX H (p.F cb) H cb p none 0 c now due [] := ⟨h, Keep.refl _ _, fun y hy => .inl hy, Outs.nil⟩
theorem CX.cin (h : CX H0 F0 H cb p ga gc c now due []) : CIn H0 F0 H cb c now due [] := ⟨p, ga, gc, [], h, rfl⟩
theorem CX.at_ (h : CX H0 F0 H cb p ga gc c now due xs) (ht : now ≤ t) {K : Heap → Prop} (hk : ∀ H', CX H0 F0 H' cb p ga gc c t due xs → K H') : StCell H ⟨cb, 10, none⟩ (.int .i64 t) K :=
  stL h.rep.blk (by simp [cnL]) rfl fun H1 b1 k1 => hk H1 (h.put k1 b1 h.rep.ok rfl rfl (Int.le_trans h.rep.le ht))
/-- Nothing was done. -/
theorem Left.same (h : CRep H cb p c now due none 0 0) (ht : now ≤ t) (hd : c.st = 0 → due = -1) {H1 : Heap} (k : Keep Nil H H1) : Left H (p.F cb) H1 cb c t (.slice none 0 0) [] :=
  ⟨p, now, due, none, 0, [], rfl, rfl, ht, h.keep k fun _ _ h => h, hd, k.mono fun _ h => h.elim, fun y hy => .inl hy, Outs.nil⟩
theorem Left.shut {H1 : Heap} {v : Value} (h : Left H0 F0 H cb c t v l) (k1 : Keep F0 H0 H1) (hs : Shut H1 H H') : Left H0 F0 H' cb c t v l := by
  obtain ⟨p, now', due, ga, gc, xs, h1, h2, h3, h4, h5, h6, h7, h8⟩ := h.ex
  exact ⟨p, now', due, ga, gc, xs, h1, h2, h3, h4.shut hs, h5, shutKS2 k1 h6 hs, h7, h8.shut hs⟩
theorem Left.mono {t' : Int} {v : Value} (h : Left H0 F0 H cb c t v l) (ht : t ≤ t') : Left H0 F0 H cb c t' v l := by
  obtain ⟨p, now', due, ga, gc, xs, h1, h2, h3, h4⟩ := h.ex
  exact ⟨p, now', due, ga, gc, xs, h1, h2, Int.le_trans h3 ht, h4⟩
theorem Left.rebase {H1 : Heap} {F1 : Nat → Prop} {v : Value} (h : Left H1 F1 H cb c t v l) (k : Keep F0 H0 H1) (hs : ∀ y, F1 y → F0 y ∨ H0 y = none) : Left H0 F0 H cb c t v l := by
  obtain ⟨p, now', due, ga, gc, xs, h1, h2, h3, h4, h5, h6, h7, h8⟩ := h.ex
  refine ⟨p, now', due, ga, gc, xs, h1, h2, h3, h4, h5, k.then h6 hs, fun y hy => ?_, h8.own.mono k, h8.far, fun x hx => ?_, h8.non⟩
  · rcases h7 y hy with e | e
    · exact hs y e
    · exact .inr (k.free e)
  · have hd := h8.all x hx
    exact ⟨hd.seq, hd.ack, hd.rd, fun a ha => by obtain ⟨q1, q2⟩ := hd.new a ha; exact ⟨k.free q1, q2⟩⟩
theorem slice_of {v : Value} (h : Left H0 F0 H cb c t v l) : ∃ a n cp, v = .slice a n cp := by
  obtain ⟨p, now', due, ga, gc, xs, h1, _⟩ := h.ex
  exact ⟨_, _, _, h1⟩
/-! ### What is said again -/
theorem cn_again (h : CIn H0 F0 H cb c now due []) (h0 : c.st ≠ 0) : FnW Tryz.prog f_conn_Conn_again ⟨[.pointer (some ⟨cb, 0, none⟩)]⟩ H fun v H' => v = .int .i64 c.again.2.1 ∧ CIn H0 F0 H' cb c.again.2.2 now due c.again.1 := by
  refine conn_Conn_again_sh cb ?_
  unfold conn_Conn_again_p
  have h00 := h
  have lost : ∀ {H1 : Heap} {l1 : List Sg}, CIn H0 F0 H1 cb c now due l1 → c.again = c.lost → conn_Conn_again_j1 cb H1 fun v H1 => ∀ H2, Shut H H1 H2 → v = .int .i64 c.again.2.1 ∧ CIn H0 F0 H2 cb c.again.2.2 now due c.again.1 := by
    intro H1 l1 h1 e
    rw [e]
    unfold conn_Conn_again_j1
    refine (cn_lost h1).mono ?_
    rintro _ H2 ⟨rfl, h2⟩
    exact ⟨_, rfl, fun H3 hs => ⟨rfl, h2.shut h00.keep hs⟩⟩
  obtain ⟨p, ga, gc, xs, h, ex⟩ := h
  have ok := h.rep.ok
  have hp : ∀ {n : Nat}, ({ p with da := p.da, dc := p.dc, onow := p.onow } : CP) = p := rfl
  -- the estimate backs off
  obtain ⟨on, unt, frm, hu, hob⟩ := h.rep.out.blk
  refine ⟨_, cellL h.rep.blk 0 rfl, IfB.intro (fun e9 => (cn_die h00).mono ?_) fun e9 => ?_⟩
  · have e9 : (c.st : Int) = 9 := eq_of_beq e9
    have e : c.again = ([], 0, { c with st := 0 }) := by unfold Cn.again; rw [if_pos (by omega)]
    rintro _ H1 ⟨rfl, h1⟩
    rw [e]
    exact ⟨rfl, fun H2 hs => ⟨rfl, h1.shut h00.keep hs⟩⟩
  have n9 : ¬ c.st = 9 := fun e => by rw [e] at e9; cases e9
  have syn : (c.st = 1 ∨ c.st = 2) → conn_Conn_again_j0 cb true H fun v H1 => ∀ H2, Shut H H1 H2 → v = .int .i64 c.again.2.1 ∧ CIn H0 F0 H2 cb c.again.2.2 now due c.again.1 := by
    intro hc
    unfold conn_Conn_again_j0
    refine ifT rfl ⟨_, cellL h.rep.blk 4 rfl, NilP.intro _ rfl ⟨_, cellL hob 0 rfl, (est_Back h.rep.out.est ok.tries).mono ?_⟩⟩
    rintro _ H1 (⟨h8, rfl, e⟩ | ⟨h8, rfl, e1, k1⟩)
    · rw [e]
      have h8 : c.tries = 8 := h8
      exact ⟨_, rfl, ifT rfl (lost h00 (by unfold Cn.again; rw [if_neg n9, if_pos hc, if_pos h8]))⟩
    · have h8 : c.tries < 8 := h8
      have h1 := h.good (n := c.tries + 1) (by omega) e1 k1
      have ha : c.again = ([Cn.hello { c with tries := c.tries + 1 }], 0, { c with tries := c.tries + 1 }) := by unfold Cn.again; rw [if_neg n9, if_pos hc, if_neg (by omega)]
      refine ⟨_, rfl, ifF rfl ((cn_hello ⟨_, ga, gc, xs, h1, ex⟩ (by decide)).mono ?_)⟩
      rintro _ H2 ⟨rfl, h2⟩
      rw [ha]
      exact ⟨rfl, fun H3 hs => ⟨rfl, h2.shut h00.keep hs⟩⟩
  have rest : ¬ (c.st = 1 ∨ c.st = 2) → conn_Conn_again_j0 cb false H fun v H1 => ∀ H2, Shut H H1 H2 → v = .int .i64 c.again.2.1 ∧ CIn H0 F0 H2 cb c.again.2.2 now due c.again.1 := by
    intro hc
    unfold conn_Conn_again_j0
    refine ifF rfl ⟨_, cellL h.rep.blk 4 rfl, (out_Flight h.rep.out).mono ?_⟩
    rintro _ _ ⟨rfl, e⟩
    rw [e]
    clear e
    refine ⟨_, rfl, IfB.intro (fun hs => ⟨_, cellL h.rep.blk 4 rfl, _, cellL h.rep.blk 10 rfl, ?_⟩) fun hs => ?_⟩
    · have hs : (0 : Int) < (c.sent : Int) := of_decide_eq_true hs
      have hs : 0 < c.sent := by omega
      have hag : c.again = if c.tries = 8 then c.lost else ([c.mk' c.una 24 (c.data.take (min c.sent c.big))], 0, { c with tries := c.tries + 1 }) := by unfold Cn.again; rw [if_neg n9, if_neg hc, if_pos hs]
      refine (out_Again h.rep.out h.rep.le hs).mono ?_
      rintro _ H1 (⟨h8, rfl, ho, s1⟩ | ⟨h8, u, rfl, fu, ho, s1⟩)
      · have h8 : c.tries = 8 := h8
        refine ⟨_, _, _, _, _, rfl, ?_⟩
        unfold conn_Conn_again_j2
        exact ifT rfl (lost ⟨_, ga, gc, xs, h.outT (c' := c) ho s1 ok (Int.le_refl _) (fun _ => rfl) rfl, ex⟩ (by rw [hag, if_pos h8]))
      · have h8 : c.tries < 8 := h8
        rw [if_neg (by omega)] at hag
        obtain ⟨a, cap, rfl, hseg⟩ := fresh_seg h h.keep (fun y hy => h.rep.live hy) fu
        have h1 := h.outT (c' := { c with tries := c.tries + 1 }) ho s1 (tries_ok ok (by omega)) (Int.le_refl _) (fun _ => rfl) rfl
        refine ⟨_, _, _, _, _, rfl, ?_⟩
        unfold conn_Conn_again_j2
        have hxl : xs.length ≤ 10000 := by have := congrArg List.length ex; simp at this; rw [this]; decide
        refine ifF rfl ((cn_say h1 (d := c.data.take (min c.sent c.big)) ok.una rfl (hseg _ rfl ok.una (wants_lt h.rep.inn)) hxl).mono ?_)
        rintro _ H2 ⟨gb, gc', rfl, h2⟩
        rw [hag]
        refine ⟨_, rfl, fun H3 hs => ⟨rfl, CIn.shut ⟨_, _, gc', _, h2, ?_⟩ h00.keep hs⟩⟩
        rw [List.map_append, ex]; rfl
    · have hs : ¬ (0 : Int) < (c.sent : Int) := of_decide_eq_false hs
      have hs : ¬ 0 < c.sent := by omega
      have bye : c.bye = true → c.sure = false → conn_Conn_again_j3 cb true H fun v H1 => ∀ H2, Shut H H1 H2 → v = .int .i64 c.again.2.1 ∧ CIn H0 F0 H2 cb c.again.2.2 now due c.again.1 := by
        intro hb hsu
        unfold conn_Conn_again_j3
        refine ifT rfl ⟨_, cellL h.rep.blk 4 rfl, NilP.intro _ rfl ⟨_, cellL hob 0 rfl, (est_Back h.rep.out.est ok.tries).mono ?_⟩⟩
        have hag : c.again = if c.tries = 8 then c.lost else ([c.fin], 0, { c with tries := c.tries + 1 }) := by unfold Cn.again; rw [if_neg n9, if_neg hc, if_neg hs, hb, hsu]; rfl
        rintro _ H1 (⟨h8, rfl, e⟩ | ⟨h8, rfl, e1, k1⟩)
        · rw [e]
          have h8 : c.tries = 8 := h8
          exact ⟨_, rfl, ifT rfl (lost h00 (by rw [hag, if_pos h8]))⟩
        · have h8 : c.tries < 8 := h8
          have h1 := h.good (n := c.tries + 1) (by omega) e1 k1
          rw [if_neg (by omega)] at hag
          refine ⟨_, rfl, ifF rfl ((cn_bye ⟨_, ga, gc, xs, h1, ex⟩ (by decide)).mono ?_)⟩
          rintro _ H2 ⟨rfl, h2⟩
          rw [hag]
          exact ⟨rfl, fun H3 hs => ⟨rfl, h2.shut h00.keep hs⟩⟩
      have probe : (c.bye && !c.sure) = false → conn_Conn_again_j3 cb false H fun v H1 => ∀ H2, Shut H H1 H2 → v = .int .i64 c.again.2.1 ∧ CIn H0 F0 H2 cb c.again.2.2 now due c.again.1 := by
        intro hb
        unfold conn_Conn_again_j3
        have hag : c.again = if 0 < c.win ∨ c.data = [] then c.lost else ([c.piece 1], 0, { c with sent := c.sent + 1 }) := by unfold Cn.again; rw [if_neg n9, if_neg hc, if_neg hs, hb]; rfl
        refine ifF rfl ⟨_, cellL h.rep.blk 4 rfl, _, cellL h.rep.blk 10 rfl, (out_Probe h.rep.out h.rep.le).mono ?_⟩
        rintro _ H1 (⟨hq, rfl, ho, s1⟩ | ⟨hw, hz, hd, u, rfl, fu, ho, s1⟩)
        · have hq : 0 < c.win ∨ 0 < c.sent ∨ c.data = [] := hq
          refine ⟨_, _, _, _, _, rfl, ?_⟩
          unfold conn_Conn_again_j2
          refine ifT rfl (lost ⟨_, ga, gc, xs, h.outT (c' := c) ho s1 ok (Int.le_refl _) (fun _ => rfl) rfl, ex⟩ ?_)
          rw [hag, if_pos]
          rcases hq with e | e | e
          · exact .inl e
          · exact absurd e hs
          · exact .inr e
        · have hw : c.win = 0 := hw
          have hz : c.sent = 0 := hz
          have hd : c.data ≠ [] := hd
          rw [if_neg (fun e => e.elim (fun e => by omega) hd)] at hag
          have hl1 : 0 < c.data.length := List.length_pos_iff.2 hd
          obtain ⟨a, cap, rfl, hseg⟩ := fresh_seg h h.keep (fun y hy => h.rep.live hy) fu
          have h1 := h.outT (c' := { c with sent := c.sent + 1 }) ho s1 (sent_ok ok (by omega)) (Int.le_refl _) (fun _ => rfl) rfl
          refine ⟨_, _, _, _, _, rfl, ?_⟩
          unfold conn_Conn_again_j2
          have hxl : xs.length ≤ 10000 := by have := congrArg List.length ex; simp at this; rw [this]; decide
          have hon : c.onext < 4294967296 := addN_lt _ _
          refine ifF rfl ((cn_say h1 (d := (c.data.drop c.sent).take 1) hon rfl (hseg _ rfl hon (wants_lt h.rep.inn)) hxl).mono ?_)
          rintro _ H2 ⟨gb, gc', rfl, h2⟩
          rw [hag]
          refine ⟨_, rfl, fun H3 hs => ⟨rfl, CIn.shut ⟨_, _, gc', _, h2, ?_⟩ h00.keep hs⟩⟩
          rw [List.map_append, ex]; rfl
      refine ⟨_, cellL h.rep.blk 7 rfl, IfB.intro (fun hb => ⟨_, cellL h.rep.blk 8 rfl, ?_⟩) fun hb => probe (by rw [hb]; rfl)⟩
      cases hsu : c.sure with
      | false => exact bye hb hsu
      | true => exact probe (by rw [hsu, hb]; rfl)
  refine ⟨_, cellL h.rep.blk 0 rfl, IfB.intro (fun e1 => syn ?_) fun e1 => ⟨_, cellL h.rep.blk 0 rfl, ?_⟩⟩
  · have e1 : (c.st : Int) = 1 := eq_of_beq e1
    omega
  · by_cases e2 : c.st = 2
    · rw [e2]; exact syn (.inr e2)
    · have : (((c.st : Nat) : Int) == 2) = false := by rw [beq_eq_false_iff_ne]; omega
      rw [this]
      refine rest ?_
      rintro (e | e)
      · rw [e] at e1; cases e1
      · exact e2 e
theorem tick_spec (h : CAt H cb F c t) : FnW Tryz.prog f_conn_Conn_Tick ⟨[.pointer (some ⟨cb, 0, none⟩), .int .i64 t]⟩ H fun v H' => ∃ u a, v = .tuple ⟨[u, .int .i64 a.2.1]⟩ ∧ c.ticks a ∧ Left H F H' cb a.2.2 t u a.1 := by
  obtain ⟨p, now, due, hr, ht, hd, rfl⟩ := h.ex
  refine conn_Conn_Tick_sh cb t ?_
  unfold conn_Conn_Tick_p
  refine (cn_may hr ht).mono ?_
  rintro _ _ ⟨rfl, e⟩
  rw [e]
  refine ⟨_, rfl, ifF rfl (hr.cx.at_ ht fun H1 h1 => ⟨_, cellL h1.rep.blk 11 rfl, ?_⟩)⟩
  have quiet : conn_Conn_Tick_j0 cb true H1 fun v H1 => ∀ H2, Shut H H1 H2 → ∃ u a, v = .tuple ⟨[u, .int .i64 a.2.1]⟩ ∧ c.ticks a ∧ Left H (p.F cb) H2 cb a.2.2 t u a.1 := by
    unfold conn_Conn_Tick_j0
    refine ifT rfl fun H2 hs => ⟨_, ([], 0, c), rfl, .inl rfl, ⟨p, t, due, none, 0, [], rfl, rfl, Int.le_refl _, h1.rep.shut hs, hd, shutKS h1.keep hs, fun y hy => .inl hy, Outs.nil⟩⟩
  refine IfB.intro (fun _ => quiet) fun e1 => ⟨_, cellL h1.rep.blk 11 rfl, ?_⟩
  cases decide ((due : Int) > t) with
  | true => exact quiet
  | false =>
    unfold conn_Conn_Tick_j0
    refine ifF rfl (stL h1.rep.blk (by simp [cnL]) rfl fun H2 b2 k2 => ?_)
    have h0 : c.st ≠ 0 := fun z => by
      rw [hd z] at e1; cases e1
    have h2 := h1.dueT k2 b2
    refine (cn_again h2.cin h0).mono ?_
    rintro _ H3 ⟨rfl, h3⟩
    refine ⟨_, rfl, (cn_done h3).mono ?_⟩
    rintro v H4 h4
    obtain ⟨a, n, cp, rfl⟩ := slice_of h4
    exact ⟨_, _, _, rfl, fun H5 hs => ⟨_, c.again, rfl, .inr ⟨h0, rfl⟩, h4.shut (Keep.refl _ _) hs⟩⟩
end
end Go.Proofs.YtmiepjlnfclelaaGreat
end

section
set_option linter.all false
set_option maxRecDepth 100000
namespace Go.Proofs.YtmiepjlnfclelaaGreat
open Go.Sh Go.Pc Go.Conn
section
variable {H0 H H' : Heap} {F0 F : Nat → Prop} {cb gc : Nat} {p : CP} {c : Cn} {now due t : Int} {ga : Option Addr} {xs : List (Sg × Option Addr × Nat)} {l : List Sg}
/-- What goes out, and the end of a call. -/
theorem done_of {R : Value → Heap → Prop} (h : CIn H F H' cb c now due l) (hn : now ≤ t) (hk : ∀ a n cp H2, Left H F H2 cb c t (.slice a n cp) l → R (.slice a n cp) H2) : FnW Tryz.prog f_conn_Conn_done ⟨[.pointer (some ⟨cb, 0, none⟩)]⟩ H' R := by
  refine (cn_done h).mono ?_
  rintro v H2 h2
  obtain ⟨a, n, cp, rfl⟩ := slice_of h2
  exact hk a n cp H2 (h2.mono hn)
theorem write_spec (h : CAt H cb F c t) {a : Option Addr} {n cp : Nat} {b : List Int} (hr : ∀ H', Keep (fun x => x = cb) H H' → Reads H' a n (bv b)) (hn : n ≤ 1000000000) (hc : n ≤ cp) : FnW Tryz.prog f_conn_Conn_Write ⟨[.pointer (some ⟨cb, 0, none⟩), .int .i64 t, .slice a n cp]⟩ H fun v H' =>
    ∃ u, v = .tuple ⟨[.int .i64 (c.write b).1, u, .int .i64 (c.write b).2.2.1]⟩ ∧ Left H F H' cb (c.write b).2.2.2 t u (c.write b).2.1 := by
  obtain ⟨p, now, due, hr0, ht, hd, rfl⟩ := h.ex
  refine conn_Conn_Write_sh cb t a n cp ?_
  unfold conn_Conn_Write_p
  refine (cn_may hr0 ht).mono ?_
  rintro _ _ ⟨rfl, e⟩
  rw [e]
  have no : (c.st ≠ 3 ∧ c.st ≠ 6) → conn_Conn_Write_j0 cb t a n cp true H fun v H1 => ∀ H2, Shut H H1 H2 → ∃ u, v = .tuple ⟨[.int .i64 (c.write b).1, u, .int .i64 (c.write b).2.2.1]⟩ ∧ Left H (p.F cb) H2 cb (c.write b).2.2.2 t u (c.write b).2.1 := by
    intro hs
    unfold conn_Conn_Write_j0
    have e : c.write b = (0, [], 150, c) := by unfold Cn.write; rw [if_pos hs]
    rw [e]
    exact ifT rfl fun H2 hs => ⟨_, rfl, (Left.same hr0 ht hd (Keep.refl _ _)).shut (Keep.refl _ _) hs⟩
  have yes : (c.st = 3 ∨ c.st = 6) → conn_Conn_Write_j0 cb t a n cp false H fun v H1 => ∀ H2, Shut H H1 H2 → ∃ u, v = .tuple ⟨[.int .i64 (c.write b).1, u, .int .i64 (c.write b).2.2.1]⟩ ∧ Left H (p.F cb) H2 cb (c.write b).2.2.2 t u (c.write b).2.1 := by
    intro hs
    unfold conn_Conn_Write_j0
    generalize hk : min b.length (4096 - c.data.length) = k
    have e : c.write b = (k, (Cn.flush { c with data := c.data ++ b.take k }).1, 0, (Cn.flush { c with data := c.data ++ b.take k }).2) := by
      unfold Cn.write
      rw [if_neg (by omega)]
      simp only [hk]
    rw [e]
    have ok := hr0.ok
    refine ifF rfl (stL hr0.blk (by simp [cnL]) rfl fun H1 b1 k1 => ?_)
    have h1 : CX H (p.F cb) H1 cb p none 0 c t due [] := hr0.cx.put k1 b1 ok rfl rfl (Int.le_trans hr0.le ht)
    have hr1 : Reads H1 a n (bv b) := hr H1 k1
    refine ⟨_, cellL h1.rep.blk 4 rfl, (out_Write h1.rep.out hr1 hn hc).mono ?_⟩
    rintro _ H2 ⟨rfl, da', dc', ho, s2⟩
    have hk' : min b.length (4096 - c.ob.data.length) = k := hk
    rw [hk'] at ho ⊢
    have hlen := ok.len
    have hsent := ok.sent
    have ok' : ({ c with data := c.data ++ b.take k } : Cn).Ok := ⟨ok.st, ok.first, ok.una, by show (c.data ++ b.take k).length ≤ 4096; simp; omega, by show c.sent ≤ (c.data ++ b.take k).length; simp; omega, ok.win, ok.big, ok.tries, ok.inn, ok.some, ok.got⟩
    have h2 := h1.outT (c' := { c with data := c.data ++ b.take k }) ho s2 ok' h1.rep.le (fun _ => rfl) rfl
    refine ⟨_, rfl, (cn_flush h2.cin (by decide)).mono ?_⟩
    rintro _ H3 ⟨rfl, h3⟩
    refine ⟨rfl, done_of h3 (Int.le_refl _) fun a n cp H4 h4 => ⟨_, _, _, rfl, fun H5 hs => ⟨_, rfl, h4.shut (Keep.refl _ _) hs⟩⟩⟩
  refine ⟨_, rfl, ifF rfl ⟨_, cellL hr0.blk 0 rfl, IfB.intro (fun e3 => ⟨_, cellL hr0.blk 0 rfl, ?_⟩) fun e3 => yes (.inl ?_)⟩⟩
  · have n3 : c.st ≠ 3 := fun e => by rw [e] at e3; cases e3
    by_cases h6 : c.st = 6
    · rw [h6]; exact yes (.inr h6)
    · have : (((c.st : Nat) : Int) != 6) = true := by rw [bne_iff_ne]; omega
      rw [this]
      exact no ⟨n3, h6⟩
  · have : ¬ (((c.st : Nat) : Int) ≠ 3) := fun e => by rw [bne_iff_ne.2 e] at e3; cases e3
    omega
theorem read_min (j : Jn) (n : Nat) : j.read (min n j.rdy.length) = j.read n := by
  unfold Jn.read
  have e1 : j.rdy.take (min n j.rdy.length) = j.rdy.take n := by
    rcases Nat.le_total n j.rdy.length with h | h
    · rw [Nat.min_eq_left h]
    · rw [Nat.min_eq_right h, List.take_of_length_le h, List.take_of_length_le (Nat.le_refl _)]
  have e2 : j.rdy.drop (min n j.rdy.length) = j.rdy.drop n := by
    rcases Nat.le_total n j.rdy.length with h | h
    · rw [Nat.min_eq_left h]
    · rw [Nat.min_eq_right h, List.drop_of_length_le h, List.drop_of_length_le (Nat.le_refl _)]
  rw [e1, e2]
theorem read_spec (h : CAt H cb F c t) (n : Nat) (hn : n ≤ 1000000000) : FnW Tryz.prog f_conn_Conn_Read ⟨[.pointer (some ⟨cb, 0, none⟩), .int .i64 t, .int .i64 n]⟩ H fun v H' =>
    ∃ a m cp u, v = .tuple ⟨[.slice a m cp, u, .int .i64 0]⟩ ∧ Reads H' a m (bv (c.read n).1) ∧ m ≤ 4096 ∧ Left H F H' cb (c.read n).2.2 t u (c.read n).2.1 := by
  obtain ⟨p, now, due, hr0, ht, hd, rfl⟩ := h.ex
  refine conn_Conn_Read_sh cb t n ?_
  unfold conn_Conn_Read_p
  refine (cn_may hr0 ht).mono ?_
  rintro _ _ ⟨rfl, e⟩
  rw [e]
  clear e
  have ok := hr0.ok
  refine ⟨_, rfl, ifF rfl (ifF (decide_eq_false (by omega)) (hr0.cx.at_ ht fun H1 h1 => ⟨_, cellL h1.rep.blk 5 rfl, ?_⟩))⟩
  have hi := h1.rep.inn
  cases hp : p.jp with
  | none =>
    rw [hp] at hi
    cases hj : c.inn with
    | some j => rw [hj] at hi; exact hi.elim
    | none =>
      have e : c.read n = ([], [], c) := by unfold Cn.read; rw [hj]; rfl
      rw [e]
      refine ifT (by unfold CP.ip; rw [hp]; rfl) fun H2 hs => ⟨none, 0, 0, _, rfl, Reads.nil, by decide, ⟨p, t, due, none, 0, [], rfl, rfl, Int.le_refl _, h1.rep.shut hs, hd, shutKS h1.keep hs, fun y hy => .inl hy, Outs.nil⟩⟩
  | some q =>
    rw [hp] at hi
    cases hj : c.inn with
    | none => rw [hj] at hi; exact hi.elim
    | some j =>
      rw [hj] at hi
      have hJ : JRep H1 q.jb q.rb q.hb q.ra q.rc q.first j := hi
      have eip : p.ip = some ⟨q.jb, 0, none⟩ := by unfold CP.ip; rw [hp]; rfl
      have hlen := hJ.ok.len
      refine ifF (by rw [eip]; rfl) ⟨_, cellL h1.rep.blk 5 rfl, ?_⟩
      rw [eip]
      refine (joint_Window hJ).mono ?_
      rintro _ _ ⟨rfl, e⟩
      rw [e]
      clear e
      refine ⟨_, rfl, _, cellL h1.rep.blk 5 (by unfold cnL; rw [eip]; rfl), (joint_Read hJ n hn).mono ?_⟩
      rintro _ H2 ⟨u, ra', rc', rfl, fu, hJ2, s2, hfar⟩
      rw [read_min] at fu hJ2
      obtain ⟨a, cp, rfl, ou⟩ := fu
      generalize hk : (j.read n).2 = k at *
      have ok' : ({ c with inn := some k } : Cn).Ok := ⟨ok.st, ok.first, ok.una, ok.len, ok.sent, ok.win, ok.big, ok.tries, fun j' hj' => (by cases hj'; exact hJ2.ok), fun _ => by simp, fun _ => by simp⟩
      have h2 := h1.jnT (j := j) (j' := k) (c' := { c with inn := some k }) hp hJ2 s2 ok' (fun _ => rfl) rfl rfl
      have hcx : CX H2 _ H2 cb _ none 0 { c with inn := some k } t due [] := h2.rep.cx
      have hsub : ∀ y, CP.F { p with jp := some ⟨q.jb, q.rb, q.hb, ra', rc', q.first⟩ } cb y → p.F cb y ∨ H y = none := h2.sub
      have hnl : (j.read n).1.length ≤ 4096 := by unfold Jn.read; simp; omega
      have hru : Reads H2 a (j.read n).1.length (bv (j.read n).1) := by have := ou.reads; rwa [Nat.mul_one] at this
      -- what was read stays
      have hufar : ∀ x, a = some x → ¬ CP.F { p with jp := some ⟨q.jb, q.rb, q.hb, ra', rc', q.first⟩ } cb x.block := fun x hx hF => by
        rcases ou.2.2 with ⟨e, _⟩ | ⟨m, rest, e, h0, hB, _⟩
        · rw [e] at hx; cases hx
        · rw [e] at hx; cases hx
          have hm := hfar m ⟨0, (j.read n).1.length, cp, by rw [e]⟩
          rcases hF with e | e | e
          · exact h1.rep.blk.some (e ▸ h0)
          · exact h1.rep.out.live e h0
          · exact hm.2 e
      have e1 : c.read n = ((j.read n).1, if j.win = 0 ∧ 0 < k.win ∧ 3 ≤ c.st ∧ c.st ≤ 5 then [Cn.nod { c with inn := some k }] else [], { c with inn := some k }) := by
        unfold Cn.read
        rw [hj, ← hk]; rfl
      have j1 : ∀ (H3 : Heap) (l : List Sg), CIn H2 (CP.F { p with jp := some ⟨q.jb, q.rb, q.hb, ra', rc', q.first⟩ } cb) H3 cb { c with inn := some k } t due l → (c.read n).2.1 = l → conn_Conn_Read_j1 cb 0 a (j.read n).1.length cp H3 fun v H1 => ∀ H2, Shut H H1 H2 → ∃ a m cp u, v = .tuple ⟨[.slice a m cp, u, .int .i64 0]⟩ ∧ Reads H2 a m (bv (c.read n).1) ∧ m ≤ 4096 ∧ Left H (p.F cb) H2 cb (c.read n).2.2 t u (c.read n).2.1 := by
        intro H3 l h3 el
        unfold conn_Conn_Read_j1
        refine done_of h3 (Int.le_refl _) fun a4 n4 c4 H4 h4 => ⟨_, _, _, rfl, fun H5 hs => ⟨a, _, cp, _, rfl, ?_, ?_, ?_⟩⟩
        · obtain ⟨_, _, _, _, _, _, _, _, _, _, _, k4, _, _⟩ := h4.ex
          rw [e1]
          exact reads_shut (hru.keep k4 hufar) hs
        · exact hnl
        · have := (h4.rebase h2.keep hsub).shut (Keep.refl _ _) hs
          rw [el]
          rw [e1]
          exact this
      have j0 : ∀ x : Bool, (x = true ↔ j.win = 0 ∧ 0 < k.win ∧ 3 ≤ c.st ∧ c.st ≤ 5) → conn_Conn_Read_j0 cb 0 a (j.read n).1.length cp x H2 fun v H1 => ∀ H2, Shut H H1 H2 → ∃ a m cp u, v = .tuple ⟨[.slice a m cp, u, .int .i64 0]⟩ ∧ Reads H2 a m (bv (c.read n).1) ∧ m ≤ 4096 ∧ Left H (p.F cb) H2 cb (c.read n).2.2 t u (c.read n).2.1 := by
        intro x hx
        unfold conn_Conn_Read_j0
        refine IfB.intro (fun e => (cn_nod hcx.cin (by decide)).mono ?_) fun e => j1 H2 [] hcx.cin ?_
        · rintro _ H3 ⟨rfl, h3⟩
          exact ⟨rfl, j1 H3 _ h3 (by rw [e1]; exact if_pos (hx.1 e))⟩
        · rw [e1]
          exact if_neg fun z => by rw [hx.2 z] at e; cases e
      have b2 := h2.rep.blk
      refine ⟨_, _, _, _, rfl, IfB.intro (fun ew => ⟨_, cellL b2 5 rfl, ?_⟩) fun ew => j0 _ ⟨(fun z => by cases z), fun z => ?_⟩⟩
      · have ew : (j.win : Int) = 0 := eq_of_beq ew
        refine (joint_Window hJ2).mono ?_
        rintro _ _ ⟨rfl, e⟩
        rw [e]
        clear e
        refine ⟨_, rfl, IfB.intro (fun e2 => ⟨_, cellL b2 0 rfl, IfB.intro (fun e3 => ⟨_, cellL b2 0 rfl, j0 _ ⟨fun z => ?_, fun z => ?_⟩⟩) fun e3 => j0 _ ⟨(fun z => by cases z), fun z => ?_⟩⟩) fun e2 => j0 _ ⟨(fun z => by cases z), fun z => ?_⟩⟩
        · have a1 := of_decide_eq_true e2
          have a2 : (3 : Int) ≤ (c.st : Int) := of_decide_eq_true e3
          have a3 : (c.st : Int) ≤ 5 := of_decide_eq_true z
          exact ⟨by omega, by omega, by omega, by omega⟩
        · exact decide_eq_true (show (c.st : Int) ≤ 5 by omega)
        · have a2 : ¬ (3 : Int) ≤ (c.st : Int) := of_decide_eq_false e3
          omega
        · have a2 := of_decide_eq_false e2
          omega
      · rw [z.1] at ew; cases ew
theorem shut_spec (h : CAt H cb F c t) : FnW Tryz.prog f_conn_Conn_Shut ⟨[.pointer (some ⟨cb, 0, none⟩), .int .i64 t]⟩ H fun v H' => ∃ u, v = .tuple ⟨[u, .int .i64 c.end_.2.1]⟩ ∧ Left H F H' cb c.end_.2.2 t u c.end_.1 := by
  obtain ⟨p, now, due, hr, ht, hd, rfl⟩ := h.ex
  refine conn_Conn_Shut_sh cb t ?_
  unfold conn_Conn_Shut_p
  refine (cn_may hr ht).mono ?_
  rintro _ _ ⟨rfl, e⟩
  rw [e]
  clear e
  have ok := hr.ok
  have yes : ∀ (s : Nat), (s = 4 ∧ c.st = 3 ∨ s = 8 ∧ c.st = 6) → StCell H ⟨cb, 0, none⟩ (.int .i64 s) fun H2 => conn_Conn_Shut_j0 cb t H2 fun v H1 => ∀ H2, Shut H H1 H2 → ∃ u, v = .tuple ⟨[u, .int .i64 c.end_.2.1]⟩ ∧ Left H (p.F cb) H2 cb c.end_.2.2 t u c.end_.1 := by
    intro s hs
    have e : c.end_ = ((Cn.flush { c with st := s, shut := true }).1, 0, (Cn.flush { c with st := s, shut := true }).2) := by
      unfold Cn.end_
      rw [if_pos (by omega)]
      have : (if c.st = 3 then 4 else 8) = s := by
        rcases hs with ⟨h1, h2⟩ | ⟨h1, h2⟩
        · rw [if_pos h2]; exact h1.symm
        · rw [if_neg (by omega)]; exact h1.symm
      rw [this]
    rw [e]
    refine stL hr.blk (by simp [cnL]) rfl fun H1 b1 k1 => ?_
    unfold conn_Conn_Shut_j0
    refine stL b1 (by simp [cnL]) rfl fun H2 b2 k2 => stL b2 (by simp [cnL]) rfl fun H3 b3 k3 => ?_
    have ok' : ({ c with st := s, shut := true } : Cn).Ok := ⟨by show s ≤ 9; omega, ok.first, ok.una, ok.len, ok.sent, ok.win, ok.big, ok.tries, ok.inn, fun _ => ok.some (by omega), ok.got⟩
    have h3 := hr.cx.put (c' := { c with st := s, shut := true }) (now' := t) ((k1.trans k2).trans k3) b3 ok' rfl rfl (Int.le_trans hr.le ht)
    refine (cn_flush h3.cin (by decide)).mono ?_
    rintro _ H4 ⟨rfl, h4⟩
    exact ⟨rfl, done_of h4 (Int.le_refl _) fun a n cp H5 h5 => ⟨_, _, _, rfl, fun H6 hs => ⟨_, rfl, h5.shut (Keep.refl _ _) hs⟩⟩⟩
  refine ⟨_, rfl, ifF rfl ⟨_, cellL hr.blk 0 rfl, IfB.intro (fun e => yes 4 (.inl ⟨rfl, ?_⟩)) fun e3 => IfB.intro (fun e => yes 8 (.inr ⟨rfl, ?_⟩)) fun e6 => fun H2 hs => ?_⟩⟩
  · have : (c.st : Int) = 3 := eq_of_beq e
    omega
  · have : (c.st : Int) = 6 := eq_of_beq e
    omega
  · have n3 : c.st ≠ 3 := fun e => by rw [e] at e3; cases e3
    have n6 : c.st ≠ 6 := fun e => by rw [e] at e6; cases e6
    have e : c.end_ = ([], 150, c) := by unfold Cn.end_; rw [if_neg (by omega)]
    rw [e]
    exact ⟨_, rfl, (Left.same hr ht hd (Keep.refl _ _)).shut (Keep.refl _ _) hs⟩
theorem abort_spec (h : CAt H cb F c t) : FnW Tryz.prog f_conn_Conn_Abort ⟨[.pointer (some ⟨cb, 0, none⟩), .int .i64 t]⟩ H fun v H' => ∃ u, v = .tuple ⟨[u, .int .i64 0]⟩ ∧ Left H F H' cb c.abort.2 t u c.abort.1 := by
  obtain ⟨p, now, due, hr, ht, hd, rfl⟩ := h.ex
  refine conn_Conn_Abort_sh cb t ?_
  unfold conn_Conn_Abort_p
  refine (cn_may hr ht).mono ?_
  rintro _ _ ⟨rfl, e⟩
  rw [e]
  clear e
  refine ⟨_, rfl, ifF rfl (hr.cx.at_ ht fun H1 h1 => ⟨_, cellL h1.rep.blk 0 rfl, ?_⟩)⟩
  have j1 : ∀ (H2 : Heap) (l : List Sg), CIn H (p.F cb) H2 cb c t due l → c.abort = (l, { c with st := 0 }) → conn_Conn_Abort_j1 cb H2 fun v H1 => ∀ H2, Shut H H1 H2 → ∃ u, v = .tuple ⟨[u, .int .i64 0]⟩ ∧ Left H (p.F cb) H2 cb c.abort.2 t u c.abort.1 := by
    intro H2 l h2 e
    rw [e]
    unfold conn_Conn_Abort_j1
    refine (cn_die h2).mono ?_
    rintro _ H3 ⟨rfl, h3⟩
    exact ⟨rfl, done_of h3 (Int.le_refl _) fun a n cp H5 h5 => ⟨_, _, _, rfl, fun H6 hs => ⟨_, rfl, h5.shut (Keep.refl _ _) hs⟩⟩⟩
  have j0 : ∀ x : Bool, (x = true ↔ 2 ≤ c.st ∧ c.st ≤ 8) → conn_Conn_Abort_j0 cb x H1 fun v H1 => ∀ H2, Shut H H1 H2 → ∃ u, v = .tuple ⟨[u, .int .i64 0]⟩ ∧ Left H (p.F cb) H2 cb c.abort.2 t u c.abort.1 := by
    intro x hx
    unfold conn_Conn_Abort_j0
    refine IfB.intro (fun e => (cn_last h1.rep).mono ?_) fun e => j1 H1 [] h1.cin ?_
    · rintro _ _ ⟨rfl, e2⟩
      rw [e2]
      refine ⟨_, rfl, (cn_say0 h1.cin (last_lt h1.rep.ok) (by decide)).mono ?_⟩
      rintro _ H2 ⟨⟨a, rfl⟩, h2⟩
      refine ⟨_, rfl, j1 H2 _ h2 ?_⟩
      unfold Cn.abort
      rw [if_pos (hx.1 e)]; rfl
    · unfold Cn.abort
      rw [if_neg fun z => by rw [hx.2 z] at e; cases e]
  refine IfB.intro (fun e => ⟨_, cellL h1.rep.blk 0 rfl, j0 _ ⟨fun z => ?_, fun z => ?_⟩⟩) fun e => j0 _ ⟨(fun z => by cases z), fun z => ?_⟩
  · have e : (2 : Int) ≤ (c.st : Int) := of_decide_eq_true e
    have z : (c.st : Int) ≤ 8 := of_decide_eq_true z
    omega
  · exact decide_eq_true (show (c.st : Int) ≤ 8 by omega)
  · have e : ¬ (2 : Int) ≤ (c.st : Int) := of_decide_eq_false e
    omega
end
end Go.Proofs.YtmiepjlnfclelaaGreat
end

section
set_option linter.all false
set_option maxRecDepth 100000
namespace Go.Proofs.YtmiepjlnfclelaaGreat
open Go.Sh Go.Pc Go.Conn
/-- A segment that is handed in; its data are none of F's blocks. -/
structure SgArg (H : Heap) (F : Nat → Prop) (s : Sg) (a : Option Addr) (n : Nat) : Prop where
  seq : s.seq < 4294967296
  ack : s.ack < 4294967296
  rd : Reads H a n (bv s.data)
  live : ∀ x, a = some x → H x.block ≠ none ∧ ¬ F x.block
section
variable {H0 H H' : Heap} {F0 F F1 : Nat → Prop} {cb gc : Nat} {p : CP} {c : Cn} {now due t : Int} {ga : Option Addr} {xs : List (Sg × Option Addr × Nat)} {l : List Sg} {s : Sg} {a : Option Addr} {n cp : Nat}
theorem SgArg.len (h : SgArg H F s a n) : s.data.length = n := by have := h.rd.len; simpa using this
theorem SgArg.step {S : Nat → Prop} (h : SgArg H F s a n) (k : Keep S H H') (hs : ∀ y, S y → F y ∨ H y = none) (hf : ∀ y, F1 y → F y ∨ H y = none) : SgArg H' F1 s a n := by
  have key : ∀ x, a = some x → ∀ G : Nat → Prop, (∀ y, G y → F y ∨ H y = none) → ¬ G x.block := fun x hx G hG hg => by
    rcases hG _ hg with e | e
    · exact (h.live x hx).2 e
    · exact (h.live x hx).1 e
  exact ⟨h.seq, h.ack, h.rd.keep k fun x hx => key x hx S hs, fun x hx => ⟨k.live _ (h.live x hx).1, key x hx F1 hf⟩⟩
theorem CIn.base (h : CIn H0 F0 H cb c now due []) : ∃ p, CRep H cb p c now due none 0 0 ∧ Keep F0 H0 H ∧ ∀ y, p.F cb y → F0 y ∨ H0 y = none := by
  obtain ⟨p, ga, gc, xs, h, e⟩ := h
  have : xs = [] := List.map_eq_nil_iff.1 e
  subst this
  obtain ⟨rfl, rfl⟩ := h.outs.non rfl
  exact ⟨p, h.rep, h.keep, h.sub⟩
theorem CIn.rebase {H1 : Heap} (h : CIn H1 F1 H cb c now due l) (k : Keep F0 H0 H1) (hs : ∀ y, F1 y → F0 y ∨ H0 y = none) : CIn H0 F0 H cb c now due l := by
  obtain ⟨p, ga, gc, xs, h, e⟩ := h
  refine ⟨p, ga, gc, xs, ⟨h.rep, k.then h.keep hs, fun y hy => ?_, h.outs.own.mono k, h.outs.far, fun x hx => ?_, h.outs.non⟩, e⟩
  · rcases h.sub y hy with e | e
    · exact hs y e
    · exact .inr (k.free e)
  · have hd := h.outs.all x hx
    exact ⟨hd.seq, hd.ack, hd.rd, fun a ha => by obtain ⟨q1, q2⟩ := hd.new a ha; exact ⟨k.free q1, q2⟩⟩
theorem can_win (h : s.can = true) : ∃ w : Nat, s.win = w ∧ w ≤ 65535 ∧ s.win.toNat = w := by
  unfold Sg.can Sg.fits i16 at h
  simp only [Bool.and_eq_true, decide_eq_true_eq] at h
  exact ⟨s.win.toNat, by omega, by omega, rfl⟩
theorem can_flags (h : s.can = true) : 0 ≤ s.flags ∧ s.flags < 64 := by
  unfold Sg.can at h
  simp only [Bool.and_eq_true] at h
  exact Sg.fits_flags h.1
theorem can_big (h : s.can = true) : 0 ≤ s.big := by
  unfold Sg.can Sg.fits i16 at h
  simp only [Bool.and_eq_true, decide_eq_true_eq] at h
  omega
theorem can_len (h : s.can = true) : s.data.length ≤ 65495 := by
  unfold Sg.can at h
  simp only [Bool.and_eq_true, decide_eq_true_eq] at h
  exact h.2
theorem ok_ob {d : Cn} (h : c.Ok) (ho : d.ob.Ok) (h1 : d.st = c.st) (h2 : d.first = c.first) (h3 : d.inn = c.inn) (h4 : d.got = c.got) : d.Ok :=
  ⟨h1 ▸ h.st, h2 ▸ h.first, ho.una, ho.len, ho.sent, ho.win, ho.big, ho.tries, fun j hj => h.inn j (h3 ▸ hj), fun x => by rw [h3]; exact h.some (h1 ▸ x), fun x => by rw [h3]; exact h.got (h4 ▸ x)⟩
/-- With an acknowledgement taken. -/
noncomputable def Cn.sureN (c : Cn) (n w : Nat) : Cn := { c with win := w, una := addN c.una n, data := c.data.drop n, sent := c.sent - n, tries := if n = 0 then c.tries else 0 }
theorem ackd_none {k w : Nat} (h : c.sent < wayN c.una k) : c.ackd k w = none := by unfold Cn.ackd; simp only; rw [if_pos h]
theorem ackd_some {k w : Nat} (h : wayN c.una k ≤ c.sent) : c.ackd k w = some (wayN c.una k, Cn.sureN c (wayN c.una k) w) := by unfold Cn.ackd; simp only; rw [if_neg (by omega)]; rfl
/-- The outbox takes an acknowledgement. -/
theorem CX.ackT {k w : Nat} (h : CX H0 F0 H cb p ga gc c now due xs) (hk : k < 4294967296) (hw : w ≤ 65535) {R : Value → Heap → Prop}
    (h1 : c.sent < wayN c.una k → R (.tuple ⟨[.int .i64 0, .int .i64 2]⟩) H)
    (h2 : ∀ H' p', wayN c.una k ≤ c.sent → p'.ob = p.ob → p'.eb = p.eb → CX H0 F0 H' cb p' ga gc (Cn.sureN c (wayN c.una k) w) now due xs → OStep H H' p.ob p.eb p.da p'.da → R (.tuple ⟨[.int .i64 (wayN c.una k), .int .i64 0]⟩) H') :
    FnW Tryz.prog f_send_Outbox_Ack ⟨[.pointer (some ⟨p.ob, 0, none⟩), .int .i64 now, .int .u32 k, .int .i64 w]⟩ H R := by
  refine (out_Ack h.rep.out h.rep.le hk hw).mono ?_
  rintro _ H' (⟨hlt, rfl, e⟩ | ⟨hle, rfl, da', dc', ho, s⟩)
  · rw [e]; exact h1 hlt
  · exact h2 H' { p with da := da', dc := dc', onow := now } hle rfl rfl (h.outT (c' := Cn.sureN c (wayN c.una k) w) ho s (ok_ob h.rep.ok ho.ok rfl rfl rfl rfl) (Int.le_refl _) (fun _ => rfl) rfl) s
theorem welcome_spec (h : CRep H cb p c now due none 0 0) (hi : c.inn ≠ none) (hs : SgArg H (p.F cb) s a n) (hc : s.can = true) : FnW Tryz.prog f_conn_Conn_welcome ⟨[.pointer (some ⟨cb, 0, none⟩), .agg ⟨sgL s a n cp⟩]⟩ H fun v H' => v = .tuple ⟨[]⟩ ∧ ∃ due', CIn H (p.F cb) H' cb (c.welcome s) now due' [] := by
  refine conn_Conn_welcome_sh cb _ _ _ _ _ _ _ _ a n cp ?_
  unfold conn_Conn_welcome_p
  refine newB fun q H1 hq b1 k1 => ?_
  have r1 := h.keep k1 fun _ _ h => h
  have hqF : ¬ p.F cb q := fun e => h.live e hq
  have ok := h.ok
  have ok3 : ({ c with st := 3 } : Cn).Ok := ⟨by show 3 ≤ 9; omega, ok.first, ok.una, ok.len, ok.sent, ok.win, ok.big, ok.tries, ok.inn, fun _ => hi, ok.got⟩
  refine stL r1.blk (by simp [cnL]) rfl fun H2 b2 k2 => ?_
  have h2 : CX H1 (p.F cb) H2 cb p none 0 { c with st := 3 } now due [] := r1.cx.put k2 b2 ok3 rfl rfl r1.le
  refine (cn_news h2.cin).mono ?_
  rintro _ H3 ⟨rfl, h3⟩
  obtain ⟨p3, r3, k3, s3⟩ := h3.base
  have b3 : Blk H3 q T_seg_Segment ⟨sgL s a n cp⟩ := k3.blk b1 hqF
  obtain ⟨w, hw1, hw2, hw3⟩ := can_win hc
  have hsub : ∀ y, p3.F cb y → p.F cb y ∨ H y = none := fun y hy => (s3 y hy).imp id fun e => k1.free e
  have k03 : Keep (p.F cb) H H3 := (k1.mono fun _ h => h.elim).trans k3
  refine ⟨rfl, _, cellL r3.blk 4 rfl, _, cellL r3.blk 10 rfl, _, cellL b3 3 rfl, _, cellL b3 5 rfl, ?_⟩
  rw [hw1]
  have ew : c.welcome s = pick (Cn.ackd { c with st := 3, tries := 0 } s.ack w) { c with st := 3, tries := 0 } := by unfold Cn.welcome; rw [hw3]
  have hsF : ∀ y, p.F cb y → p.F cb y ∨ H y = none := fun y hy => .inl hy
  have k01 : Keep (p.F cb) H H1 := k1.mono fun _ h => h.elim
  refine CX.ackT r3.cx hs.ack hw2 (fun hlt => ⟨_, _, rfl, fun H4 hsh => ⟨rfl, -1, ?_⟩⟩) fun H4 p4 hle _ _ h4 s4 => ⟨_, _, rfl, fun H5 hsh => ⟨rfl, -1, ?_⟩⟩
  · rw [ew, ackd_none (show ({ c with st := 3, tries := 0 } : Cn).sent < wayN ({ c with st := 3, tries := 0 } : Cn).una s.ack from hlt)]
    exact (h3.rebase k01 hsF).shut (Keep.refl _ _) hsh
  · rw [ew, ackd_some (show wayN ({ c with st := 3, tries := 0 } : Cn).una s.ack ≤ ({ c with st := 3, tries := 0 } : Cn).sent from hle)]
    exact (h4.cin.rebase k03 hsub).shut (Keep.refl _ _) hsh
theorem finished_spec (h : CIn H0 F0 H cb c now due l) : FnW Tryz.prog f_conn_Conn_finished ⟨[.pointer (some ⟨cb, 0, none⟩)]⟩ H fun v H' => v = .tuple ⟨[]⟩ ∧ ∃ due', CIn H0 F0 H' cb c.finished now due' l := by
  refine conn_Conn_finished_sh cb ?_
  unfold conn_Conn_finished_p
  have h00 := h
  obtain ⟨p, ga, gc, xs, h, rfl⟩ := h
  have ok := h.rep.ok
  refine ⟨_, cellL h.rep.blk 8 rfl, IfB.intro (fun e H2 hs => ⟨rfl, due, ?_⟩) fun e => stL h.rep.blk (by simp [cnL]) rfl fun H1 b1 k1 => ⟨_, cellL b1 0 rfl, ?_⟩⟩
  · have : c.finished = c := by unfold Cn.finished; rw [if_pos e]
    rw [this]
    exact h00.shut h00.keep hs
  have ef : c.finished = { c with sure := true, st := if c.st = 4 then 5 else if c.st = 7 then 9 else if c.st = 8 then 0 else c.st } := by
    unfold Cn.finished
    rw [if_neg (by rw [e]; decide)]
  have ok1 : ({ c with sure := true } : Cn).Ok := ⟨ok.st, ok.first, ok.una, ok.len, ok.sent, ok.win, ok.big, ok.tries, ok.inn, ok.some, ok.got⟩
  have h1 : CX H0 F0 H1 cb p ga gc { c with sure := true } now due xs := h.put k1 b1 ok1 rfl rfl h.rep.le
  refine IfB.intro (fun e4 => ?_) fun e4 => IfB.intro (fun e7 => ?_) fun e7 => IfB.intro (fun e8 => ?_) fun e8 => ?_
  · have e4 : (c.st : Int) = 4 := eq_of_beq e4
    rw [ef, if_pos (by omega)]
    refine stL h1.rep.blk (by simp [cnL]) rfl fun H2 b2 k2 => fun H3 hs => ⟨rfl, due, p, ga, gc, xs, CX.shut (S := F0) (h1.put (c' := { c with sure := true, st := 5 }) k2 b2 ⟨by show 5 ≤ 9; omega, ok.first, ok.una, ok.len, ok.sent, ok.win, ok.big, ok.tries, ok.inn, fun _ => ok.some (by omega), ok.got⟩ rfl rfl h1.rep.le) h00.keep hs, rfl⟩
  · have n4 : ¬ c.st = 4 := fun e => by rw [e] at e4; cases e4
    have e7 : (c.st : Int) = 7 := eq_of_beq e7
    rw [ef, if_neg n4, if_pos (by omega)]
    refine (cn_rest ⟨p, ga, gc, xs, h1, rfl⟩ (ok.some (by omega))).mono ?_
    rintro _ H2 ⟨rfl, d2, h2⟩
    exact ⟨rfl, fun H3 hs => ⟨rfl, d2, h2.shut h00.keep hs⟩⟩
  · have n4 : ¬ c.st = 4 := fun e => by rw [e] at e4; cases e4
    have n7 : ¬ c.st = 7 := fun e => by rw [e] at e7; cases e7
    have e8 : (c.st : Int) = 8 := eq_of_beq e8
    rw [ef, if_neg n4, if_neg n7, if_pos (by omega)]
    refine (cn_die ⟨p, ga, gc, xs, h1, rfl⟩).mono ?_
    rintro _ H2 ⟨rfl, h2⟩
    exact ⟨rfl, fun H3 hs => ⟨rfl, due, h2.shut h00.keep hs⟩⟩
  · have n4 : ¬ c.st = 4 := fun e => by rw [e] at e4; cases e4
    have n7 : ¬ c.st = 7 := fun e => by rw [e] at e7; cases e7
    have n8 : ¬ c.st = 8 := fun e => by rw [e] at e8; cases e8
    rw [ef, if_neg n4, if_neg n7, if_neg n8]
    exact fun H2 hs => ⟨rfl, due, CIn.shut ⟨p, ga, gc, xs, h1, rfl⟩ h00.keep hs⟩
theorem ahead_spec {x y : Nat} (hx : x < 4294967296) (hy : y < 4294967296) : FnW Tryz.prog f_seq_Ahead ⟨[.int .u32 x, .int .u32 y]⟩ H fun v H' => v = .bool (aheadN x y) ∧ H' = H := by
  refine seq_Ahead_sh x y ?_
  unfold seq_Ahead_p
  refine (seq_Way_spec hx hy).mono ?_
  rintro _ _ ⟨rfl, e⟩
  rw [e]
  refine ⟨_, rfl, fun H2 hs => ⟨?_, (shutE0 hs).symm⟩⟩
  have hl := wayN_lt x y
  unfold aheadN
  rw [w32]
  congr 1
  rw [← Bool.decide_and]
  exact decide_eq_decide.2 (by omega)
theorem way_onext (h : c.Ok) : wayN c.una c.onext = c.sent := by
  have := h.una
  have := h.sent
  have := h.len
  unfold Cn.onext
  rw [wayN_eq, addN_eq]
  omega
theorem acknowledged_spec (h : CRep H cb p c now due none 0 0) (hs : SgArg H (p.F cb) s a n) (hc : s.can = true) : FnW Tryz.prog f_conn_Conn_acknowledged ⟨[.pointer (some ⟨cb, 0, none⟩), .agg ⟨sgL s a n cp⟩]⟩ H fun v H' => v = .bool (c.acknowledged s).1 ∧ ∃ due', CIn H (p.F cb) H' cb (c.acknowledged s).2 now due' [] := by
  refine conn_Conn_acknowledged_sh cb _ _ _ _ _ _ _ _ a n cp ?_
  unfold conn_Conn_acknowledged_p
  obtain ⟨w, hw1, hw2, hw3⟩ := can_win hc
  refine newB fun q H1 hq b1 k1 => ?_
  have r1 := h.keep k1 fun _ _ h => h
  have hqF : ¬ p.F cb q := fun e => h.live e hq
  have ok := h.ok
  have hsF : ∀ y, p.F cb y → p.F cb y ∨ H y = none := fun y hy => .inl hy
  have k01 : Keep (p.F cb) H H1 := k1.mono fun _ h => h.elim
  have sret : ∀ {H2 : Heap} {d : Cn} {due' : Int}, CIn H1 (p.F cb) H2 cb d now due' [] → ∀ {H3 : Heap}, Shut H H2 H3 → CIn H (p.F cb) H3 cb d now due' [] := fun h2 H3 hsh => (h2.rebase k01 hsF).shut (Keep.refl _ _) hsh
  -- the window's end
  have j0 : ∀ (H2 : Heap) (d : Cn) (due' : Int), CIn H1 (p.F cb) H2 cb d now due' [] → c.acknowledged s = (true, d.quiet s) → conn_Conn_acknowledged_j0 cb q H2 fun v H1 => ∀ H2, Shut H H1 H2 → v = .bool (c.acknowledged s).1 ∧ ∃ due', CIn H (p.F cb) H2 cb (c.acknowledged s).2 now due' [] := by
    intro H2 d due' h2 e
    rw [e]
    have h20 := h2
    obtain ⟨p2, r2, k2, s2⟩ := h2.base
    have b2 : Blk H2 q T_seg_Segment ⟨sgL s a n cp⟩ := k2.blk b1 hqF
    unfold conn_Conn_acknowledged_j0
    refine ⟨_, cellL b2 5 rfl, ?_⟩
    unfold conn_Conn_acknowledged_j1 Cn.quiet
    obtain ⟨on, unt, frm, hu, hob⟩ := r2.out.blk
    refine IfB.intro (fun e0 => ⟨_, cellL r2.blk 4 rfl, NilP.intro _ rfl ⟨_, cellL hob 0 rfl, (est_Good r2.out.est).mono ?_⟩⟩) fun e0 => fun H3 hsh => ⟨rfl, due', ?_⟩
    · have e0 : s.win = 0 := eq_of_beq e0
      rw [if_pos e0]
      rintro _ H3 ⟨rfl, e3, k3⟩
      refine ⟨rfl, fun H4 hsh => ⟨rfl, due', ?_⟩⟩
      exact sret ((r2.cx.good (n := 0) (by omega) e3 k3).cin.rebase k2 s2) hsh
    · have e0 : ¬ s.win = 0 := fun e => by rw [e] at e0; cases e0
      rw [if_neg e0]
      exact sret h20 hsh
  refine ⟨_, cellL r1.blk 4 rfl, _, cellL r1.blk 10 rfl, _, cellL b1 3 rfl, _, cellL b1 5 rfl, ?_⟩
  rw [hw1]
  have eack : c.acknowledged s = ackG (c.ackd s.ack w) c s := by unfold Cn.acknowledged; rw [hw3]
  refine CX.ackT r1.cx hs.ack hw2 (fun hlt => ⟨_, _, rfl, ifF rfl ?_⟩) fun H2 p2 hle _ _ h2 s2 => ⟨_, _, rfl, ifT rfl (IfB.intro (fun hp => ?_) fun hp => ?_)⟩
  · rw [ackd_none hlt] at eack
    obtain ⟨kp1, kp2⟩ := kept_one b1.some
    have hbq : ∃ ob, H1 q = some ob := ⟨_, b1⟩
    have hbc : ∃ ob, H1 cb = some ob := ⟨_, r1.blk⟩
    refine ⟨[q, cb], fun y hy => ?_, _, cellL r1.blk 7 rfl, ?_⟩
    · simp only [List.mem_cons, List.not_mem_nil, or_false] at hy
      rcases hy with rfl | rfl
      · exact hbq
      · exact hbc
    have kp : ∀ H2 : Heap, H2 q = H1 q → H2 cb = H1 cb → KeptIn [q, cb] H1 H2 := fun H2 e1 e2 y hy => by
      simp only [List.mem_cons, List.not_mem_nil, or_false] at hy
      rcases hy with rfl | rfl
      · exact ⟨hbq, e1⟩
      · exact ⟨hbc, e2⟩
    have mem : ∀ y, y ∈ [q, cb] → ∃ ob, H1 y = some ob := fun y hy => by
      simp only [List.mem_cons, List.not_mem_nil, or_false] at hy
      rcases hy with rfl | rfl
      · exact hbq
      · exact hbc
    -- of what was never sent
    have no : (c.bye && decide (s.ack = c.last)) = false → conn_Conn_acknowledged_j2 cb q false H1 fun v H1 => ∀ H2, Shut H H1 H2 → v = .bool (c.acknowledged s).1 ∧ ∃ due', CIn H (p.F cb) H2 cb (c.acknowledged s).2 now due' [] := by
      intro hb
      have e : c.acknowledged s = (aheadN s.ack c.una, c) := by rw [eack]; show (if (c.bye && decide (s.ack = c.last)) = true then _ else _) = _; rw [hb]; rfl
      rw [e]
      unfold conn_Conn_acknowledged_j2
      refine ifF rfl ⟨[q, cb], mem, by simp, _, cellL b1 3 rfl, _, cellL r1.blk 4 rfl, (out_Una r1.out).mono ?_⟩
      rintro _ _ ⟨rfl, e⟩
      rw [e]
      refine ⟨_, rfl, kp _ rfl rfl, (ahead_spec hs.ack ok.una).mono ?_⟩
      rintro _ _ ⟨rfl, e⟩
      rw [e]
      exact ⟨_, rfl, fun H2 hsh => ⟨rfl, due, sret r1.cx.cin hsh⟩⟩
    have yes : c.bye = true → s.ack = c.last → conn_Conn_acknowledged_j2 cb q true H1 fun v H1 => ∀ H2, Shut H H1 H2 → v = .bool (c.acknowledged s).1 ∧ ∃ due', CIn H (p.F cb) H2 cb (c.acknowledged s).2 now due' [] := by
      intro hb hl
      have hon : c.onext < 4294967296 := addN_lt _ _
      have e : c.acknowledged s = (true, ((lastN (c.ackd c.onext w) c).finished).quiet s) := by
        rw [eack]
        show (if (c.bye && decide (s.ack = c.last)) = true then _ else _) = _
        rw [hb, decide_eq_true hl, hw3]; rfl
      have hway := way_onext ok
      rw [ackd_some (by omega), hway] at e
      unfold conn_Conn_acknowledged_j2
      refine ifT rfl ⟨[q, cb], mem, by simp, _, cellL r1.blk 4 rfl, by simp, _, cellL r1.blk 10 rfl, _, cellL r1.blk 4 rfl, by simp, _, cellL b1 5 rfl, (out_Next r1.out).mono ?_⟩
      rintro _ _ ⟨rfl, e9⟩
      rw [e9]
      clear e9
      refine ⟨_, rfl, kp _ rfl rfl, ?_⟩
      rw [hw1]
      have hon2 : c.ob.onext = c.onext := rfl
      rw [hon2]
      refine CX.ackT r1.cx hon hw2 (fun hlt => absurd hlt (by omega)) fun H2 p2 hle ho _ h2 s2 => ⟨_, _, rfl, kp _ ?_ ?_, ?_⟩
      · exact h2.keep.same q hqF b1.some
      · exact s2.1.same cb (out_ne r1.out r1.blk) r1.blk.some
      rw [hway] at h2 ⊢
      have j4 : ∀ (H3 : Heap) (d : Cn) (due' : Int), CIn H1 (p.F cb) H3 cb d now due' [] → d = lastN (some (c.sent, Cn.sureN c c.sent w)) c → conn_Conn_acknowledged_j4 cb q H3 fun v H1 => ∀ H2, Shut H H1 H2 → v = .bool (c.acknowledged s).1 ∧ ∃ due', CIn H (p.F cb) H2 cb (c.acknowledged s).2 now due' [] := by
        intro H3 d due' h3 ed
        unfold conn_Conn_acknowledged_j4
        refine (finished_spec h3).mono ?_
        rintro _ H4 ⟨rfl, d4, h4⟩
        exact ⟨rfl, j0 H4 d.finished d4 h4 (by rw [e, ed])⟩
      have j3 : ∀ x : Bool, (x = true ↔ 0 < c.sent ∨ c.sure = false) → conn_Conn_acknowledged_j3 cb q x H2 fun v H1 => ∀ H2, Shut H H1 H2 → v = .bool (c.acknowledged s).1 ∧ ∃ due', CIn H (p.F cb) H2 cb (c.acknowledged s).2 now due' [] := by
        intro x hx
        unfold conn_Conn_acknowledged_j3
        refine IfB.intro (fun ex => (cn_news h2.cin).mono ?_) fun ex => j4 H2 _ due h2.cin ?_
        · rintro _ H3 ⟨rfl, h3⟩
          exact ⟨rfl, j4 H3 _ _ h3 (by rw [show lastN (some (c.sent, Cn.sureN c c.sent w)) c = if 0 < c.sent ∨ c.sure = false then (Cn.sureN c c.sent w).news else Cn.sureN c c.sent w from rfl, if_pos (hx.1 ex)])⟩
        · rw [show lastN (some (c.sent, Cn.sureN c c.sent w)) c = if 0 < c.sent ∨ c.sure = false then (Cn.sureN c c.sent w).news else Cn.sureN c c.sent w from rfl, if_neg fun z => by rw [hx.2 z] at ex; cases ex]
      refine IfB.intro (fun hp => j3 _ ⟨fun _ => .inl ?_, fun _ => rfl⟩) fun hp => ⟨_, cellL h2.rep.blk 8 rfl, j3 _ ⟨fun z => .inr ?_, fun z => ?_⟩⟩
      · have hp := of_decide_eq_true hp
        omega
      · show c.sure = false
        have z : (!c.sure) = true := z
        cases hsu : c.sure with
        | false => rfl
        | true => rw [hsu] at z; cases z
      · have hp := of_decide_eq_false hp
        rcases z with z | z
        · omega
        · show (!c.sure) = true
          rw [z]; rfl
    refine IfB.intro (fun hb => ⟨by simp, _, cellL b1 3 rfl, (cn_last r1).mono ?_⟩) fun hb => no (by rw [show c.bye = false from hb]; rfl)
    have hb : c.bye = true := hb
    rintro _ _ ⟨rfl, e⟩
    rw [e]
    refine ⟨_, rfl, kp _ rfl rfl, ?_⟩
    by_cases hl : s.ack = c.last
    · rw [hl]
      have : (((c.last : Nat) : Int) == ((c.last : Nat) : Int)) = true := beq_iff_eq.2 rfl
      rw [this]
      exact yes hb hl
    · have : (((s.ack : Nat) : Int) == ((c.last : Nat) : Int)) = false := by rw [beq_eq_false_iff_ne]; omega
      rw [this]
      exact no (by rw [decide_eq_false hl, Bool.and_false])
  · have hp := of_decide_eq_true hp
    rw [ackd_some hle] at eack
    refine (cn_news h2.cin).mono ?_
    rintro _ H3 ⟨rfl, h3⟩
    have en : (Cn.sureN c (wayN c.una s.ack) w).news = Cn.sureN c (wayN c.una s.ack) w := by
      unfold Cn.news Cn.sureN
      rw [if_neg (by omega)]
    rw [en] at h3
    exact ⟨rfl, j0 H3 _ _ h3 eack⟩
  · rw [ackd_some hle] at eack
    exact j0 H2 _ _ h2.cin eack
end
end Go.Proofs.YtmiepjlnfclelaaGreat
end

section
set_option linter.all false
set_option maxRecDepth 100000
namespace Go.Proofs.YtmiepjlnfclelaaGreat
open Go.Sh Go.Pc Go.Conn
section
variable {H0 H H' : Heap} {F0 F F1 : Nat → Prop} {cb gc : Nat} {p : CP} {c : Cn} {now due t : Int} {ga : Option Addr} {xs : List (Sg × Option Addr × Nat)} {l : List Sg} {s : Sg} {a : Option Addr} {n cp : Nat}
theorem data_spec (h : CRep H cb p c now due none 0 0) (hs : SgArg H (p.F cb) s a n) (hc : s.can = true) : FnW Tryz.prog f_conn_Conn_data ⟨[.pointer (some ⟨cb, 0, none⟩), .agg ⟨sgL s a n cp⟩]⟩ H fun v H' => v = .tuple ⟨[]⟩ ∧ ∃ due', CIn H (p.F cb) H' cb (c.takes s) now due' [] := by
  refine conn_Conn_data_sh cb _ _ _ _ _ _ _ _ a n cp ?_
  unfold conn_Conn_data_p
  have ok := h.ok
  have hsF : ∀ y, p.F cb y → p.F cb y ∨ H y = none := fun y hy => .inl hy
  obtain ⟨hf0, hf1⟩ := can_flags hc
  have hcl := can_len hc
  refine newB fun q H1 hq b1 k1 => ?_
  have r1 := h.keep k1 fun _ _ h => h
  have k01 : Keep (p.F cb) H H1 := k1.mono fun _ h => h.elim
  have hqF : ¬ p.F cb q := fun e => h.live e hq
  have sret : ∀ {H2 : Heap} {d : Cn} {due' : Int}, CIn H1 (p.F cb) H2 cb d now due' [] → ∀ {H3 : Heap}, Shut H H2 H3 → CIn H (p.F cb) H3 cb d now due' [] := fun h2 H3 hsh => (h2.rebase k01 hsF).shut (Keep.refl _ _) hsh
  have yes : (c.st = 3 ∨ c.st = 4 ∨ c.st = 5) → conn_Conn_data_j0 cb q true H1 fun v H1 => ∀ H2, Shut H H1 H2 → v = .tuple ⟨[]⟩ ∧ ∃ due', CIn H (p.F cb) H2 cb (c.takes s) now due' [] := by
    intro hst
    have hi := r1.inn
    cases hj : c.inn with
    | none => exact absurd hj (ok.some (by omega))
    | some j =>
      cases hp : p.jp with
      | none => rw [hp, hj] at hi; exact hi.elim
      | some jq =>
        rw [hp, hj] at hi
        have hJ : JRep H1 jq.jb jq.rb jq.hb jq.ra jq.rc jq.first j := hi
        have eip : p.ip = some ⟨jq.jb, 0, none⟩ := by unfold CP.ip; rw [hp]; rfl
        have et : c.takes s = c.joined s (j.add s.seq s.data) := by
          unfold Cn.takes
          rw [hj]
          show (if c.st = 3 ∨ c.st = 4 ∨ c.st = 5 then _ else _) = _
          rw [if_pos hst]
        rw [et]
        unfold conn_Conn_data_j0
        refine ifT rfl ?_
        unfold conn_Conn_data_j1
        have hs1 : SgArg H1 (p.F cb) s a n := hs.step k1 (fun _ h => h.elim) hsF
        have hJF : ∀ y, JFt jq.jb jq.rb jq.hb jq.ra y → p.F cb y := fun y hy => .inr (.inr (by rw [hp]; exact hy))
        refine ⟨_, cellL r1.blk 5 rfl, _, cellL b1 2 rfl, _, _, _, cellL b1 8 rfl, ?_⟩
        rw [eip]
        refine (joint_Add hJ hs.seq hs1.rd (fun x hx hF => (hs1.live x hx).2 (hJF _ hF)) (by have := hs.len; omega)).mono ?_
        rintro _ H2 ⟨⟨u, e, rfl⟩, ra', rc', first', hJ2, s2⟩
        generalize hk : j.add s.seq s.data = k at *
        have ok2 : ({ c with inn := some k } : Cn).Ok := ⟨ok.st, ok.first, ok.una, ok.len, ok.sent, ok.win, ok.big, ok.tries, fun j' hj' => (by cases hj'; exact hJ2.ok), fun _ => by simp, fun _ => by simp⟩
        have h2 := r1.cx.jnT (j := j) (j' := k) (c' := { c with inn := some k }) hp hJ2 s2 ok2 (fun _ => rfl) rfl rfl
        have b2 : Blk H2 q T_seg_Segment ⟨sgL s a n cp⟩ := h2.keep.blk b1 hqF
        have hbc : ∃ ob, H2 cb = some ob := ⟨_, h2.rep.blk⟩
        refine ⟨_, _, rfl, [cb], fun y hy => by rw [List.mem_singleton.1 hy]; exact hbc, ld9 b2 ((has_spec hf0 hf1 (bits_flag hf0 hf1).1).mono ?_)⟩
        rintro _ H3 ⟨rfl, k3⟩
        have h3 := h2.nil k3
        have b3 := k3.blk b2 id
        have kp3 : KeptIn [cb] H2 H3 := fun y hy => by
          rw [List.mem_singleton.1 hy]
          exact ⟨hbc, k3.same cb id h2.rep.blk.some⟩
        have hfin : bitB s.flags 0 = s.fin := rfl
        rw [hfin]
        have j2 : ∀ x : Bool, (x = false ↔ (s.fin && decide (addN s.seq s.data.length = k.next)) = true) → conn_Conn_data_j2 cb x H3 fun v H1 => ∀ H2, Shut H H1 H2 → v = .tuple ⟨[]⟩ ∧ ∃ due', CIn H (p.F cb) H2 cb (c.joined s k) now due' [] := by
          intro x hx
          unfold conn_Conn_data_j2
          refine IfB.intro (fun e H4 hsh => ⟨rfl, due, ?_⟩) fun e => ?_
          · have : c.joined s k = { c with inn := some k } := by
              unfold Cn.joined
              rw [if_neg fun z => by rw [hx.2 z] at e; cases e]
            rw [this]
            exact sret h3.cin hsh
          · have ej : c.joined s k = { c with inn := some k, got := true, st := if c.st = 3 then 6 else if c.st = 4 then 7 else 9 } := by
              unfold Cn.joined
              rw [if_pos (hx.1 e)]
            rw [ej]
            have okg : ∀ m, m ≤ 9 → ({ c with inn := some k, got := true, st := m } : Cn).Ok := fun m hm => ⟨hm, ok.first, ok.una, ok.len, ok.sent, ok.win, ok.big, ok.tries, ok2.inn, fun _ => by simp, fun _ => by simp⟩
            refine stL h3.rep.blk (by simp [cnL]) rfl fun H4 b4 k4 => ⟨_, cellL b4 0 rfl, ?_⟩
            have h4 : CX H1 (p.F cb) H4 cb _ none 0 { c with inn := some k, got := true } now due [] := h3.put (c' := { c with inn := some k, got := true }) k4 b4 (okg c.st ok.st) rfl rfl h3.rep.le
            refine IfB.intro (fun e3 => ?_) fun e3 => IfB.intro (fun e4 => ?_) fun e4 => IfB.intro (fun e5 => ?_) fun e5 => ?_
            · have e3 : (c.st : Int) = 3 := eq_of_beq e3
              rw [if_pos (by omega)]
              exact stL h4.rep.blk (by simp [cnL]) rfl fun H5 b5 k5 => fun H6 hsh => ⟨rfl, due, sret (h4.put (c' := { c with inn := some k, got := true, st := 6 }) k5 b5 (okg 6 (by omega)) rfl rfl h4.rep.le).cin hsh⟩
            · have n3 : ¬ c.st = 3 := fun e => by rw [e] at e3; cases e3
              have e4 : (c.st : Int) = 4 := eq_of_beq e4
              rw [if_neg n3, if_pos (by omega)]
              exact stL h4.rep.blk (by simp [cnL]) rfl fun H5 b5 k5 => fun H6 hsh => ⟨rfl, due, sret (h4.put (c' := { c with inn := some k, got := true, st := 7 }) k5 b5 (okg 7 (by omega)) rfl rfl h4.rep.le).cin hsh⟩
            · have n3 : ¬ c.st = 3 := fun e => by rw [e] at e3; cases e3
              have n4 : ¬ c.st = 4 := fun e => by rw [e] at e4; cases e4
              rw [if_neg n3, if_neg n4]
              refine (cn_rest h4.cin (by simp)).mono ?_
              rintro _ H5 ⟨rfl, d5, h5⟩
              exact ⟨rfl, fun H6 hsh => ⟨rfl, d5, sret h5 hsh⟩⟩
            · have n3 : ¬ c.st = 3 := fun e => by rw [e] at e3; cases e3
              have n4 : ¬ c.st = 4 := fun e => by rw [e] at e4; cases e4
              have n5 : ¬ c.st = 5 := fun e => by rw [e] at e5; cases e5
              omega
        refine ⟨_, rfl, kp3, IfB.intro (fun ef => j2 true ⟨(fun z => by cases z), fun z => ?_⟩) fun ef => ⟨_, cellL b3 2 rfl, _, _, _, cellL b3 8 rfl, List.mem_singleton.2 rfl, _, cellL h2.rep.blk 5 rfl, (seq_Add_spec hs.seq).mono ?_⟩⟩
        · simp only [Bool.and_eq_true] at z
          rw [z.1] at ef; cases ef
        · rintro _ _ ⟨rfl, e⟩
          rw [e]
          clear e
          refine ⟨_, rfl, kp3, (jn_Next h3.rep.inn).mono ?_⟩
          rintro _ _ ⟨rfl, e⟩
          rw [e]
          refine ⟨_, rfl, j2 _ ?_⟩
          have hfs : s.fin = true := by cases e : s.fin with
            | true => rfl
            | false => rw [e] at ef; cases ef
          rw [hfs, Bool.true_and, decide_eq_true_eq, hs.len]
          show (((addN s.seq n : Nat) : Int) != ((k.next : Nat) : Int)) = false ↔ _
          rw [bne_eq_false_iff_eq]
          omega
  have no : ¬ (c.st = 3 ∨ c.st = 4 ∨ c.st = 5) → conn_Conn_data_j0 cb q false H1 fun v H1 => ∀ H2, Shut H H1 H2 → v = .tuple ⟨[]⟩ ∧ ∃ due', CIn H (p.F cb) H2 cb (c.takes s) now due' [] := by
    intro hst
    unfold conn_Conn_data_j0
    refine ifF rfl fun H2 hsh => ⟨rfl, due, ?_⟩
    have : c.takes s = c := by
      unfold Cn.takes
      cases c.inn with
      | none => rfl
      | some j =>
        show (if c.st = 3 ∨ c.st = 4 ∨ c.st = 5 then _ else _) = _
        rw [if_neg hst]
    rw [this]
    exact sret r1.cx.cin hsh
  refine ⟨_, cellL r1.blk 0 rfl, IfB.intro (fun e => ?_) fun e3 => IfB.intro (fun e => ?_) fun e4 => ?_⟩
  · rw [e]
    have : (c.st : Int) = 3 := eq_of_beq e
    exact yes (by omega)
  · rw [e]
    have : (c.st : Int) = 4 := eq_of_beq e
    exact yes (by omega)
  · have n3 : ¬ c.st = 3 := fun e => by rw [e] at e3; cases e3
    have n4 : ¬ c.st = 4 := fun e => by rw [e] at e4; cases e4
    by_cases h5 : c.st = 5
    · rw [h5]; exact yes (by omega)
    · have : (((c.st : Nat) : Int) == 5) = false := by rw [beq_eq_false_iff_ne]; omega
      rw [this]
      exact no (by omega)
theorem answer_spec (h : CRep H cb p c now due none 0 0) (h0 : 0 ≤ now) (h1 : c.st = 1) (hs : SgArg H (p.F cb) s a n) (hc : s.can = true) : FnW Tryz.prog f_conn_Conn_answer ⟨[.pointer (some ⟨cb, 0, none⟩), .agg ⟨sgL s a n cp⟩]⟩ H fun v H' =>
    v = .int .i64 (c.answer s).2.1 ∧ ∃ due', CIn H (p.F cb) H' cb (c.answer s).2.2 now due' (c.answer s).1 := by
  refine conn_Conn_answer_sh cb _ _ _ _ _ _ _ _ a n cp ?_
  unfold conn_Conn_answer_p
  have ok := h.ok
  have hsF : ∀ y, p.F cb y → p.F cb y ∨ H y = none := fun y hy => .inl hy
  obtain ⟨hf0, hf1⟩ := can_flags hc
  obtain ⟨bt0, bt1, bt2, bt4, _⟩ := bits_flag hf0 hf1
  have hcl := can_len hc
  have hln := hs.len
  refine newB fun q H1 hq b1 k1 => ?_
  have r1 := h.keep k1 fun _ _ h => h
  have hqF : ¬ p.F cb q := fun e => h.live e hq
  have hbq : ∃ ob, H1 q = some ob := ⟨_, b1⟩
  have mem : ∀ y, y ∈ [q] → ∃ ob, H1 y = some ob := fun y hy => by rw [List.mem_singleton.1 hy]; exact hbq
  have kp : ∀ H2 : Heap, Keep Nil H1 H2 → KeptIn [q] H1 H2 := fun H2 k y hy => by
    rw [List.mem_singleton.1 hy]; exact ⟨hbq, k.same q id b1.some⟩
  have k01 : Keep (p.F cb) H H1 := k1.mono fun _ h => h.elim
  have sret : ∀ {H2 : Heap} {d : Cn} {due' : Int} {l : List Sg}, CIn H1 (p.F cb) H2 cb d now due' l → ∀ {H3 : Heap}, Shut H H2 H3 → CIn H (p.F cb) H3 cb d now due' l := fun h2 H3 hsh => (h2.rebase k01 hsF).shut (Keep.refl _ _) hsh
  have j0 : ∀ (x : Bool) (H2 : Heap), Keep Nil H1 H2 → x = (s.acks && decide (s.ack ≠ addN c.first 1)) → conn_Conn_answer_j0 cb q x H2 fun v H1 => ∀ H2, Shut H H1 H2 → v = .int .i64 (c.answer s).2.1 ∧ ∃ due', CIn H (p.F cb) H2 cb (c.answer s).2.2 now due' (c.answer s).1 := by
    intro x H2 k2 hx
    have b2 := k2.blk b1 id
    have h2 : CIn H1 (p.F cb) H2 cb c now due [] := r1.cx.cin.nil k2
    unfold conn_Conn_answer_j0
    refine IfB.intro (fun ex => ld9 b2 ((cn_refuse h2 hf0 hf1 hln (by omega) hs.seq hs.ack (by decide)).mono ?_)) fun ex => ld9 b2 ((has_spec hf0 hf1 bt2).mono ?_)
    · rintro _ H3 ⟨rfl, h3⟩
      have e : c.answer s = (Cn.refuse s, 0, c) := by unfold Cn.answer; rw [← hx, if_pos ex]
      rw [e]
      exact ⟨rfl, fun H4 hsh => ⟨rfl, due, sret h3 hsh⟩⟩
    rw [ex] at hx
    rintro _ H3 ⟨rfl, k3⟩
    have b3 := k3.blk b2 id
    have h3 := h2.nil k3
    refine ⟨_, rfl, IfB.intro (fun er => ld9 b3 ((has_spec hf0 hf1 bt4).mono ?_)) fun er => ld9 b3 ((has_spec hf0 hf1 bt1).mono ?_)⟩
    · rintro _ H4 ⟨rfl, k4⟩
      have h4 := h3.nil k4
      have er : s.rst = true := er
      refine ⟨_, rfl, IfB.intro (fun ea => fun H5 hsh => ?_) fun ea => (cn_lost h4).mono ?_⟩
      · have ea : s.acks = false := by
          have : (!s.acks) = true := ea
          cases e : s.acks with
          | false => rfl
          | true => rw [e] at this; cases this
        have e : c.answer s = ([], 0, c) := by unfold Cn.answer; rw [← hx, er, ea]; rfl
        rw [e]
        exact ⟨rfl, due, sret h4 hsh⟩
      · have ea : s.acks = true := by
          have : (!s.acks) = false := ea
          cases e : s.acks with
          | true => rfl
          | false => rw [e] at this; cases this
        have e : c.answer s = c.lost := by unfold Cn.answer; rw [← hx, er, ea]; rfl
        rw [e]
        rintro _ H5 ⟨rfl, h5⟩
        exact ⟨_, rfl, fun H6 hsh => ⟨rfl, due, sret h5 hsh⟩⟩
    · rintro _ H4 ⟨rfl, k4⟩
      have b4 := k4.blk b3 id
      have h4 := h3.nil k4
      have er : s.rst = false := er
      refine ⟨_, rfl, IfB.intro (fun ey => fun H5 hsh => ?_) fun ey => ?_⟩
      · have ey : s.syn = false := by
          have : (!s.syn) = true := ey
          cases e : s.syn with
          | false => rfl
          | true => rw [e] at this; cases this
        have e : c.answer s = ([], 0, c) := by unfold Cn.answer; rw [← hx, er, ey]; rfl
        rw [e]
        exact ⟨rfl, due, sret h4 hsh⟩
      have ey : s.syn = true := by
        have : (!s.syn) = false := ey
        cases e : s.syn with
        | true => rfl
        | false => rw [e] at this; cases this
      obtain ⟨p4, ga4, gc4, xs4, c4, ex4⟩ := h4
      have hnx : xs4 = [] := List.map_eq_nil_iff.1 ex4
      subst hnx
      refine ld9 b4 ((cn_begin c4 h0 (can_big hc) hs.seq).mono ?_)
      rintro _ H5 ⟨rfl, p5, c5⟩
      have b5 : Blk H5 q T_seg_Segment ⟨sgL s a n cp⟩ := c5.keep.blk b1 hqF
      refine ⟨rfl, ld9 b5 ((has_spec hf0 hf1 bt4).mono ?_)⟩
      rintro _ H6 ⟨rfl, k6⟩
      have c6 := c5.nil k6
      have b6 := k6.blk b5 id
      have ok6 := c6.rep.ok
      refine ⟨_, rfl, IfB.intro (fun ea => stL c6.rep.blk (by simp [cnL]) rfl fun H7 b7 k7 => ?_) fun ea => ?_⟩
      · have ea : s.acks = false := by
          have : (!s.acks) = true := ea
          cases e : s.acks with
          | false => rfl
          | true => rw [e] at this; cases this
        have e : c.answer s = ([Cn.hello { c.begin s with st := 2 }], 0, { c.begin s with st := 2 }) := by unfold Cn.answer; rw [← hx, er, ey, ea]; rfl
        rw [e]
        have ok7 : ({ c.begin s with st := 2 } : Cn).Ok := ⟨by show 2 ≤ 9; omega, ok6.first, ok6.una, ok6.len, ok6.sent, ok6.win, ok6.big, ok6.tries, ok6.inn, fun _ => by simp [Cn.begin], ok6.got⟩
        have c7 := c6.put (c' := { c.begin s with st := 2 }) k7 b7 ok7 rfl rfl c6.rep.le
        refine (cn_hello c7.cin (by decide)).mono ?_
        rintro _ H8 ⟨rfl, h8⟩
        exact ⟨rfl, fun H9 hsh => ⟨rfl, due, sret h8 hsh⟩⟩
      · have ea : s.acks = true := by
          have : (!s.acks) = false := ea
          cases e : s.acks with
          | true => rfl
          | false => rw [e] at this; cases this
        have e : c.answer s = (if ((c.begin s).welcome s).flush.1 = [] then [((c.begin s).welcome s).flush.2.nod] else ((c.begin s).welcome s).flush.1, 0, ((c.begin s).welcome s).flush.2) := by unfold Cn.answer; rw [← hx, er, ey, ea]; rfl
        rw [e]
        obtain ⟨p6, r6, k16, s16⟩ := c6.cin.base
        have hs6 : SgArg H6 (p6.F cb) s a n := (hs.step k1 (fun _ h => h.elim) hsF).step k16 (fun y hy => .inl hy) s16
        refine ld9 b6 ((welcome_spec r6 (by simp [Cn.begin]) hs6 hc).mono ?_)
        rintro _ H7 ⟨rfl, d7, h7⟩
        refine ⟨rfl, (cn_flush (h7.rebase k16 s16) (by decide)).mono ?_⟩
        rintro _ H8 ⟨rfl, h8⟩
        rw [List.nil_append] at h8
        have h80 := h8
        obtain ⟨p8, ga8, gc8, xs8, c8, ex8⟩ := h8
        refine ⟨rfl, _, _, _, cellL c8.rep.blk 12 rfl, ?_⟩
        unfold conn_Conn_answer_j1
        refine IfB.intro (fun el => (cn_nod h80 ?_).mono ?_) fun el => fun H9 hsh => ⟨rfl, d7, ?_⟩
        · have el : (xs8.length : Int) = 0 := eq_of_beq el
          rw [← ex8]; simp; omega
        · have el : (xs8.length : Int) = 0 := eq_of_beq el
          have hx8 : xs8 = [] := List.eq_nil_of_length_eq_zero (by omega)
          have ef : ((c.begin s).welcome s).flush.1 = [] := by rw [← ex8, hx8]; rfl
          rw [if_pos ef]
          rintro _ H9 ⟨rfl, h9⟩
          rw [ef, List.nil_append] at h9
          exact ⟨rfl, fun H10 hsh => ⟨rfl, d7, sret h9 hsh⟩⟩
        · have ef : ¬ ((c.begin s).welcome s).flush.1 = [] := fun e => by
            rw [← ex8] at e
            have : xs8 = [] := List.map_eq_nil_iff.1 e
            rw [this] at el; cases el
          rw [if_neg ef]
          exact sret h80 hsh
  refine ⟨[q], mem, ld9 b1 ((has_spec hf0 hf1 bt4).mono ?_)⟩
  rintro _ H2 ⟨rfl, k2⟩
  refine ⟨_, rfl, kp _ k2, IfB.intro (fun ea => ⟨List.mem_singleton.2 rfl, _, cellL b1 3 rfl, _, cellL (k2.blk r1.blk id) 3 rfl, (seq_Add_spec (n := 1) ok.first).mono ?_⟩) fun ea => j0 _ _ k2 ?_⟩
  · rintro _ _ ⟨rfl, e⟩
    rw [e]
    refine ⟨_, rfl, kp _ k2, j0 _ _ k2 ?_⟩
    have ea : s.acks = true := ea
    rw [ea, Bool.true_and]
    by_cases hl : s.ack = addN c.first 1
    · rw [hl]
      simp
    · rw [decide_eq_true hl]
      rw [bne_iff_ne]; omega
  · have ea : s.acks = false := ea
    rw [ea]; rfl
end
end Go.Proofs.YtmiepjlnfclelaaGreat
end

section
set_option linter.all false
set_option maxRecDepth 100000
namespace Go.Proofs.YtmiepjlnfclelaaGreat
open Go.Sh Go.Pc Go.Conn
theorem notT {b : Bool} (h : (!b) = true) : b = false := by cases b with
  | false => rfl
  | true => cases h
theorem notF {b : Bool} (h : (!b) = false) : b = true := by cases b with
  | true => rfl
  | false => cases h
section
variable {H0 H H' : Heap} {F0 F F1 : Nat → Prop} {cb gc : Nat} {p : CP} {c : Cn} {now due t : Int} {ga : Option Addr} {xs : List (Sg × Option Addr × Nat)} {l : List Sg} {s : Sg} {a : Option Addr} {n cp : Nat}
theorem span_le (h : s.data.length ≤ 65495) : s.span ≤ 65497 := by
  unfold Sg.span
  split <;> split <;> omega
theorem take_spec0 (h : CRep H cb p c now due none 0 0) (h2 : 2 ≤ c.st) (hs : SgArg H (p.F cb) s a n) (hc : s.can = true) : FnW Tryz.prog f_conn_Conn_take ⟨[.pointer (some ⟨cb, 0, none⟩), .agg ⟨sgL s a n cp⟩]⟩ H fun v H' =>
    v = .int .i64 (c.take s).2.1 ∧ ∃ due', CIn H (p.F cb) H' cb (c.take s).2.2 now due' (c.take s).1 := by
  refine conn_Conn_take_sh cb _ _ _ _ _ _ _ _ a n cp ?_
  unfold conn_Conn_take_p
  have ok := h.ok
  have hsF : ∀ y, p.F cb y → p.F cb y ∨ H y = none := fun y hy => .inl hy
  obtain ⟨hf0, hf1⟩ := can_flags hc
  obtain ⟨bt0, bt1, bt2, bt4, _⟩ := bits_flag hf0 hf1
  have hcl := can_len hc
  have hln := hs.len
  have hspan := span_le hcl
  refine newB fun q H1 hq b1 k1 => ?_
  have r1 := h.keep k1 fun _ _ h => h
  have hqF : ¬ p.F cb q := fun e => h.live e hq
  have hs1 : SgArg H1 (p.F cb) s a n := hs.step k1 (fun _ h => h.elim) hsF
  have k01 : Keep (p.F cb) H H1 := k1.mono fun _ h => h.elim
  have sret : ∀ {H2 : Heap} {d : Cn} {due' : Int} {l : List Sg}, CIn H1 (p.F cb) H2 cb d now due' l → ∀ {H3 : Heap}, Shut H H2 H3 → CIn H (p.F cb) H3 cb d now due' l := fun h2 H3 hsh => (h2.rebase k01 hsF).shut (Keep.refl _ _) hsh
  have hbq : ∃ ob, H1 q = some ob := ⟨_, b1⟩
  have hbc : ∃ ob, H1 cb = some ob := ⟨_, r1.blk⟩
  have mem : ∀ y, y ∈ [q, cb] → ∃ ob, H1 y = some ob := fun y hy => by
    simp only [List.mem_cons, List.not_mem_nil, or_false] at hy
    rcases hy with rfl | rfl
    · exact hbq
    · exact hbc
  have kp : ∀ H2 : Heap, Keep Nil H1 H2 → KeptIn [q, cb] H1 H2 := fun H2 k y hy => by
    simp only [List.mem_cons, List.not_mem_nil, or_false] at hy
    rcases hy with rfl | rfl
    · exact ⟨hbq, k.same _ id b1.some⟩
    · exact ⟨hbc, k.same _ id r1.blk.some⟩
  have hi := r1.inn
  cases hj : c.inn with
  | none => exact absurd hj (ok.some h2)
  | some j =>
    cases hp : p.jp with
    | none => rw [hp, hj] at hi; exact hi.elim
    | some jq =>
      rw [hp, hj] at hi
      have hJ : JRep H1 jq.jb jq.rb jq.hb jq.ra jq.rc jq.first j := hi
      have eip : p.ip = some ⟨jq.jb, 0, none⟩ := by unfold CP.ip; rw [hp]; rfl
      have hjw : c.jwin = j.win := by unfold Cn.jwin; rw [hj]; rfl
      have hwl : j.win ≤ 4096 := by unfold Jn.win; omega
      have hwt := wants_lt r1.inn
      refine ⟨[q, cb], mem, by simp, _, cellL r1.blk 5 rfl, by simp, _, cellL b1 2 rfl, by simp, ld9 b1 ((cn_wants r1).mono ?_)⟩
      rintro _ _ ⟨rfl, e⟩
      rw [e]
      clear e
      refine ⟨_, rfl, kp _ (Keep.refl _ _), ?_⟩
      rw [eip]
      refine (joint_Window hJ).mono ?_
      rintro _ _ ⟨rfl, e⟩
      rw [e]
      clear e
      refine ⟨_, rfl, kp _ (Keep.refl _ _), (Span_spec hf0 hf1 hln (by omega)).mono ?_⟩
      rintro _ H2 ⟨rfl, k2⟩
      refine ⟨_, rfl, kp _ k2, (seq_Accepts_spec hwt hs.seq (by omega) (by omega)).mono ?_⟩
      rintro _ _ ⟨rfl, e⟩
      rw [e]
      clear e
      rw [← hjw]
      refine ⟨_, _, rfl, kp _ k2, ?_⟩
      have etk : c.take s = if !(acceptsN c.wants c.jwin s.seq s.span) && s.rst then ([], 0, c)
          else if !(acceptsN c.wants c.jwin s.seq s.span) || (s.syn && !s.rst) || (s.rst && decide (s.seq ≠ c.wants)) then ([c.nod], 0, c)
          else if s.rst then c.lost
          else if !s.acks then ([], 0, c)
          else if c.st ≠ 2 then (if (c.acknowledged s).1 then (c.acknowledged s).2.rest s else ([(c.acknowledged s).2.nod], 0, (c.acknowledged s).2))
          else if s.ack ≠ addN c.first 1 then (Cn.refuse s, 0, c)
          else (c.welcome s).rest s := rfl
      generalize hok : acceptsN c.wants c.jwin s.seq s.span = okk at *
      -- it nods
      have j2 : ∀ (H3 : Heap) (d : Cn) (due' : Int), CIn H1 (p.F cb) H3 cb d now due' [] → c.take s = ([d.nod], 0, d) → conn_Conn_take_j2 cb H3 fun v H1 => ∀ H2, Shut H H1 H2 → v = .int .i64 (c.take s).2.1 ∧ ∃ due', CIn H (p.F cb) H2 cb (c.take s).2.2 now due' (c.take s).1 := by
        intro H3 d due' h3 e
        rw [e]
        unfold conn_Conn_take_j2 conn_Conn_take_j3
        refine (cn_nod h3 (by decide)).mono ?_
        rintro _ H4 ⟨rfl, h4⟩
        exact ⟨rfl, fun H5 hsh => ⟨rfl, due', sret h4 hsh⟩⟩
      -- behind the acknowledgement
      have j4 : ∀ (H3 : Heap) (d : Cn) (due' : Int), CIn H1 (p.F cb) H3 cb d now due' [] → c.take s = d.rest s → conn_Conn_take_j4 cb q H3 fun v H1 => ∀ H2, Shut H H1 H2 → v = .int .i64 (c.take s).2.1 ∧ ∃ due', CIn H (p.F cb) H2 cb (c.take s).2.2 now due' (c.take s).1 := by
        intro H3 d due' h3 e
        rw [e]
        obtain ⟨p3, r3, k3, s3⟩ := h3.base
        have b3 : Blk H3 q T_seg_Segment ⟨sgL s a n cp⟩ := k3.blk b1 hqF
        unfold conn_Conn_take_j4
        refine ⟨_, cellL r3.blk 0 rfl, IfB.intro (fun e0 => fun H4 hsh => ?_) fun e0 => ld9 b3 ((data_spec r3 (hs1.step k3 (fun y hy => .inl hy) s3) hc).mono ?_)⟩
        · have e0 : (d.st : Int) = 0 := eq_of_beq e0
          have er : d.rest s = ([], 0, d) := by unfold Cn.rest; rw [if_pos (by omega)]
          rw [er]
          exact ⟨rfl, due', sret h3 hsh⟩
        · have n0 : ¬ d.st = 0 := fun e => by rw [e] at e0; cases e0
          have er : d.rest s = (if (d.takes s).flush.1 = [] ∧ s.span ≠ 0 then [(d.takes s).flush.2.nod] else (d.takes s).flush.1, 0, (d.takes s).flush.2) := by unfold Cn.rest; rw [if_neg n0]
          rw [er]
          rintro _ H4 ⟨rfl, d4, h4⟩
          refine ⟨rfl, (cn_flush (h4.rebase k3 s3) (by decide)).mono ?_⟩
          rintro _ H5 ⟨rfl, h5⟩
          rw [List.nil_append] at h5
          have h50 := h5
          obtain ⟨p5, ga5, gc5, xs5, c5, ex5⟩ := h5
          have b5 : Blk H5 q T_seg_Segment ⟨sgL s a n cp⟩ := c5.keep.blk b1 hqF
          have j5 : ∀ (x : Bool) (H6 : Heap), Keep Nil H5 H6 → (x = false ↔ (d.takes s).flush.1 = [] ∧ s.span ≠ 0) → conn_Conn_take_j5 cb x H6 fun v H1 => ∀ H2, Shut H H1 H2 → v = .int .i64 0 ∧ ∃ due', CIn H (p.F cb) H2 cb (d.takes s).flush.2 now due' (if (d.takes s).flush.1 = [] ∧ s.span ≠ 0 then [(d.takes s).flush.2.nod] else (d.takes s).flush.1) := by
            intro x H6 k6 hx
            have h6 := h50.nil k6
            unfold conn_Conn_take_j5
            refine IfB.intro (fun ex => fun H7 hsh => ⟨rfl, d4, ?_⟩) fun ex => ?_
            · rw [if_neg fun z => by rw [hx.2 z] at ex; cases ex]
              exact sret h6 hsh
            · have hz := hx.1 ex
              rw [if_pos hz]
              unfold conn_Conn_take_j2 conn_Conn_take_j3
              refine (cn_nod h6 (by rw [hz.1]; decide)).mono ?_
              rintro _ H7 ⟨rfl, h7⟩
              rw [hz.1, List.nil_append] at h7
              exact ⟨rfl, fun H8 hsh => ⟨rfl, d4, sret h7 hsh⟩⟩
          refine ⟨rfl, _, _, _, cellL c5.rep.blk 12 rfl, IfB.intro (fun el => j5 true H5 (Keep.refl _ _) ⟨(fun z => by cases z), fun z => ?_⟩) fun el => ld9 b5 ((Span_spec hf0 hf1 hln (by omega)).mono ?_)⟩
          · have el : (0 : Int) < (xs5.length : Int) := of_decide_eq_true el
            have : xs5 = [] := List.map_eq_nil_iff.1 (ex5.trans z.1)
            rw [this] at el; cases el
          · have el : ¬ (0 : Int) < (xs5.length : Int) := of_decide_eq_false el
            have hx5 : xs5 = [] := List.eq_nil_of_length_eq_zero (by omega)
            have ef : (d.takes s).flush.1 = [] := by rw [← ex5, hx5]; rfl
            rintro _ H6 ⟨rfl, k6⟩
            refine ⟨_, rfl, j5 _ H6 k6 ⟨fun z => ⟨ef, fun e => ?_⟩, fun z => ?_⟩⟩
            · rw [e] at z; cases z
            · rw [beq_eq_false_iff_ne]; have := z.2; omega
      -- behind the window
      have j1 : ∀ (x : Bool) (H3 : Heap), Keep Nil H1 H3 → (x = true ↔ (!okk || (s.syn && !s.rst) || (s.rst && decide (s.seq ≠ c.wants))) = true) → (!okk && s.rst) = false → conn_Conn_take_j1 cb q x H3 fun v H1 => ∀ H2, Shut H H1 H2 → v = .int .i64 (c.take s).2.1 ∧ ∃ due', CIn H (p.F cb) H2 cb (c.take s).2.2 now due' (c.take s).1 := by
        intro x H3 k3 hx hnr
        have h3 : CIn H1 (p.F cb) H3 cb c now due [] := r1.cx.cin.nil k3
        have b3 := k3.blk b1 id
        rw [hnr] at etk
        have etk : c.take s = if !okk || (s.syn && !s.rst) || (s.rst && decide (s.seq ≠ c.wants)) then ([c.nod], 0, c)
          else if s.rst then c.lost
          else if !s.acks then ([], 0, c)
          else if c.st ≠ 2 then (if (c.acknowledged s).1 then (c.acknowledged s).2.rest s else ([(c.acknowledged s).2.nod], 0, (c.acknowledged s).2))
          else if s.ack ≠ addN c.first 1 then (Cn.refuse s, 0, c)
          else (c.welcome s).rest s := etk
        unfold conn_Conn_take_j1
        refine IfB.intro (fun ex => j2 H3 c due h3 (by rw [etk, if_pos (hx.1 ex)])) fun ex => ld9 b3 ((has_spec hf0 hf1 bt2).mono ?_)
        rw [if_neg fun z => by rw [hx.2 z] at ex; cases ex] at etk
        rintro _ H4 ⟨rfl, k4⟩
        have h4 := h3.nil k4
        have b4 := k4.blk b3 id
        refine ⟨_, rfl, IfB.intro (fun er => (cn_lost h4).mono ?_) fun er => ld9 b4 ((has_spec hf0 hf1 bt4).mono ?_)⟩
        · rw [if_pos (show s.rst = true from er)] at etk
          rw [etk]
          rintro _ H5 ⟨rfl, h5⟩
          exact ⟨_, rfl, fun H6 hsh => ⟨rfl, due, sret h5 hsh⟩⟩
        rw [show s.rst = false from er] at etk
        rintro _ H5 ⟨rfl, k5⟩
        have h5 := h4.nil k5
        have b5 := k5.blk b4 id
        obtain ⟨p5, r5, k15, s15⟩ := h5.base
        refine ⟨_, rfl, IfB.intro (fun ea => fun H6 hsh => ?_) fun ea => ⟨_, cellL r5.blk 0 rfl, ?_⟩⟩
        · rw [show s.acks = false from notT ea] at etk
          have etk : c.take s = ([], 0, c) := etk
          rw [etk]
          exact ⟨rfl, due, sret h5 hsh⟩
        rw [show s.acks = true from notF ea] at etk
        have etk : c.take s = if c.st ≠ 2 then (if (c.acknowledged s).1 then (c.acknowledged s).2.rest s else ([(c.acknowledged s).2.nod], 0, (c.acknowledged s).2))
          else if s.ack ≠ addN c.first 1 then (Cn.refuse s, 0, c)
          else (c.welcome s).rest s := etk
        have hs5 : SgArg H5 (p5.F cb) s a n := hs1.step k15 (fun y hy => .inl hy) s15
        refine IfB.intro (fun e2 => ld9 b5 ((acknowledged_spec r5 hs5 hc).mono ?_)) fun e2 => ?_
        · have n2 : c.st ≠ 2 := fun e => by rw [e] at e2; cases e2
          rw [if_pos n2] at etk
          rintro _ H6 ⟨rfl, d6, h6⟩
          have h6 := h6.rebase k15 s15
          refine ⟨_, rfl, IfB.intro (fun eg => j2 H6 _ _ h6 ?_) fun eg => j4 H6 _ _ h6 ?_⟩
          · rw [etk, notT eg]; rfl
          · rw [etk, notF eg]; rfl
        · have e22 : c.st = 2 := by
            have : ¬ (((c.st : Nat) : Int) ≠ 2) := fun e => by rw [bne_iff_ne.2 e] at e2; cases e2
            omega
          rw [if_neg (fun z => z e22)] at etk
          have hb5 : ∃ ob, H5 q = some ob := ⟨_, b5⟩
          refine ⟨[q], fun y hy => by rw [List.mem_singleton.1 hy]; exact hb5, List.mem_singleton.2 rfl, _, cellL b5 3 rfl, _, cellL r5.blk 3 rfl, (seq_Add_spec (n := 1) ok.first).mono ?_⟩
          rintro _ _ ⟨rfl, e⟩
          rw [e]
          clear e
          refine ⟨_, rfl, fun y hy => by rw [List.mem_singleton.1 hy]; exact ⟨hb5, rfl⟩, IfB.intro (fun ek => ld9 b5 ((cn_refuse h5 hf0 hf1 hln (by omega) hs.seq hs.ack (by decide)).mono ?_)) fun ek => ld9 b5 ((welcome_spec r5 (ok.some h2) hs5 hc).mono ?_)⟩
          · have ek : (s.ack : Int) ≠ ((addN c.first 1 : Nat) : Int) := bne_iff_ne.1 ek
            rw [if_pos (fun e => ek (by rw [e]))] at etk
            rw [etk]
            rintro _ H6 ⟨rfl, h6⟩
            exact ⟨rfl, fun H7 hsh => ⟨rfl, due, sret h6 hsh⟩⟩
          · have ek : s.ack = addN c.first 1 := by
              have : ¬ ((s.ack : Int) ≠ ((addN c.first 1 : Nat) : Int)) := fun e => by rw [bne_iff_ne.2 e] at ek; cases ek
              omega
            rw [if_neg (fun z => z ek)] at etk
            rintro _ H6 ⟨rfl, d6, h6⟩
            exact ⟨rfl, j4 H6 _ _ (h6.rebase k15 s15) etk⟩
      have j0 : ∀ (x : Bool) (H3 : Heap), Keep Nil H1 H3 → x = (!okk && s.rst) → conn_Conn_take_j0 cb q okk x H3 fun v H1 => ∀ H2, Shut H H1 H2 → v = .int .i64 (c.take s).2.1 ∧ ∃ due', CIn H (p.F cb) H2 cb (c.take s).2.2 now due' (c.take s).1 := by
        intro x H3 k3 hx
        have h3 : CIn H1 (p.F cb) H3 cb c now due [] := r1.cx.cin.nil k3
        have b3 := k3.blk b1 id
        have r3 := r1.keep k3 fun _ _ h => h
        unfold conn_Conn_take_j0
        refine IfB.intro (fun ex => fun H4 hsh => ?_) fun ex => ?_
        · have : c.take s = ([], 0, c) := by rw [etk, ← hx, if_pos ex]
          rw [this]
          exact ⟨rfl, due, sret h3 hsh⟩
        rw [ex] at hx
        have hnr := hx.symm
        have hb3 : ∃ ob, H3 q = some ob := ⟨_, b3⟩
        have kp3 : ∀ H4 : Heap, Keep Nil H3 H4 → KeptIn [q] H3 H4 := fun H4 k y hy => by
          rw [List.mem_singleton.1 hy]; exact ⟨hb3, k.same _ id b3.some⟩
        refine ⟨[q], fun y hy => by rw [List.mem_singleton.1 hy]; exact hb3, IfB.intro (fun eo => j1 true H3 k3 ⟨fun _ => ?_, fun _ => rfl⟩ hnr) fun eo => ld9 b3 ((has_spec hf0 hf1 bt1).mono ?_)⟩
        · rw [notT eo]; rfl
        have eo := notF eo
        rintro _ H4 ⟨rfl, k4⟩
        have b4 := k4.blk b3 id
        have r4 := r3.keep k4 fun _ _ h => h
        have tail : ∀ (H5 : Heap), Keep Nil H3 H5 → (s.syn && !s.rst) = false → FnW Tryz.prog f_conn_has ⟨[.agg ⟨sgL s a n cp⟩, .int .i64 4]⟩ H5 fun x41v H26 => ∃ x41 : Bool, x41v = (Value.bool x41) ∧ KeptIn [q] H3 H26 ∧ IfB x41
             (q ∈ [q] ∧ ∃ x44 : Int, H3.cell ⟨q, 2, none⟩ = some (Value.int .u32 x44) ∧
             FnW Tryz.prog f_conn_Conn_wants ⟨[(Value.pointer (some ⟨cb, 0, none⟩))]⟩ H26 fun x46v H27 =>
             ∃ x46 : Int, x46v = (Value.int .u32 x46) ∧
             KeptIn [q] H3 H27 ∧ conn_Conn_take_j1 cb q ((x44 : Int) != x46) H27 fun v H1 => ∀ H2, Shut H H1 H2 → v = .int .i64 (c.take s).2.1 ∧ ∃ due', CIn H (p.F cb) H2 cb (c.take s).2.2 now due' (c.take s).1)
             (conn_Conn_take_j1 cb q false H26 fun v H1 => ∀ H2, Shut H H1 H2 → v = .int .i64 (c.take s).2.1 ∧ ∃ due', CIn H (p.F cb) H2 cb (c.take s).2.2 now due' (c.take s).1) := by
          intro H5 k5 hsy
          refine (has_spec hf0 hf1 bt2).mono ?_
          rintro _ H6 ⟨rfl, k6⟩
          have k36 := k5.trans k6
          refine ⟨_, rfl, kp3 _ k36, IfB.intro (fun er => ⟨List.mem_singleton.2 rfl, _, cellL b3 2 rfl, (cn_wants (r3.keep k36 fun _ _ h => h)).mono ?_⟩) fun er => j1 false H6 (k3.trans k36) ⟨(fun z => by cases z), fun z => ?_⟩ hnr⟩
          · rintro _ _ ⟨rfl, e⟩
            rw [e]
            clear e
            refine ⟨_, rfl, kp3 _ k36, j1 _ H6 (k3.trans k36) ?_ hnr⟩
            rw [eo, hsy, show s.rst = true from er, bne_iff_ne]
            simp
            omega
          · rw [eo, hsy, show s.rst = false from er] at z; cases z
        refine ⟨_, rfl, kp3 _ k4, IfB.intro (fun ey => ld9 b4 ((has_spec hf0 hf1 bt2).mono ?_)) fun ey => ld9 b4 (tail H4 k4 (by rw [show s.syn = false from ey]; rfl))⟩
        rintro _ H5 ⟨rfl, k5⟩
        have b5 := k5.blk b4 id
        refine ⟨_, rfl, kp3 _ (k4.trans k5), IfB.intro (fun er => j1 true H5 ((k3.trans k4).trans k5) ⟨fun _ => ?_, fun _ => rfl⟩ hnr) fun er => ld9 b5 (tail H5 (k4.trans k5) ?_)⟩
        · rw [eo, show s.syn = true from ey, show s.rst = false from notT er]; rfl
        · rw [show s.rst = true from notF er, Bool.not_true, Bool.and_false]
      refine IfB.intro (fun eo => ld9 (k2.blk b1 id) ((has_spec hf0 hf1 bt2).mono ?_)) fun eo => j0 _ _ k2 (by rw [notF eo]; rfl)
      rintro _ H3 ⟨rfl, k3⟩
      exact ⟨_, rfl, j0 _ _ (k2.trans k3) (by rw [notT eo]; rfl)⟩
theorem Take_spec (h : CAt H cb F c t) (h0 : 0 ≤ t) (hs : SgArg H F s a n) : FnW Tryz.prog f_conn_Conn_Take ⟨[.pointer (some ⟨cb, 0, none⟩), .int .i64 t, .agg ⟨sgL s a n cp⟩]⟩ H fun v H' =>
    ∃ u, v = .tuple ⟨[u, .int .i64 (c.Take s).2.1]⟩ ∧ Left H F H' cb (c.Take s).2.2 t u (c.Take s).1 := by
  obtain ⟨p, now, due, hr, ht, hd, rfl⟩ := h.ex
  refine conn_Conn_Take_sh cb t _ _ _ _ _ _ _ _ a n cp ?_
  unfold conn_Conn_Take_p
  have hsF : ∀ y, p.F cb y → p.F cb y ∨ H y = none := fun y hy => .inl hy
  refine newB fun q H1 hq b1 k1 => ?_
  have r1 := hr.keep k1 fun _ _ h => h
  have hqF : ¬ p.F cb q := fun e => hr.live e hq
  have hs1 : SgArg H1 (p.F cb) s a n := hs.step k1 (fun _ h => h.elim) hsF
  have k01 : Keep (p.F cb) H H1 := k1.mono fun _ h => h.elim
  refine (cn_may r1 ht).mono ?_
  rintro _ _ ⟨rfl, e⟩
  rw [e]
  clear e
  refine ⟨_, rfl, ifF rfl (ld9 b1 ((can_spec hs1.rd).mono ?_))⟩
  rintro _ H2 ⟨rfl, k2⟩
  have r2 := r1.keep k2 fun _ _ h => h
  have k02 := k1.trans k2
  refine ⟨_, rfl, IfB.intro (fun ec => fun H3 hsh => ?_) fun ec => ⟨_, cellL r2.blk 0 rfl, IfB.intro (fun e0 => fun H3 hsh => ?_) fun e0 => ?_⟩⟩
  · have e : c.Take s = ([], 2, c) := by unfold Cn.Take; rw [if_pos ec]
    rw [e]
    exact ⟨_, rfl, (Left.same hr ht hd k02).shut (Keep.refl _ _) hsh⟩
  · have e0 : (c.st : Int) = 0 := eq_of_beq e0
    have e : c.Take s = ([], 150, c) := by unfold Cn.Take; rw [if_neg (by rw [ec]; decide), if_pos (by omega)]
    rw [e]
    exact ⟨_, rfl, (Left.same hr ht hd k02).shut (Keep.refl _ _) hsh⟩
  have hc := notF ec
  have n0 : ¬ c.st = 0 := fun e => by rw [e] at e0; cases e0
  have b2 := k2.blk b1 id
  have fin : ∀ (H3 : Heap) (z : Ans) (due' : Int), c.Take s = z → CIn H1 (p.F cb) H3 cb z.2.2 t due' z.1 → conn_Conn_Take_j0 cb z.2.1 H3 fun v H1 => ∀ H2, Shut H H1 H2 → ∃ u, v = .tuple ⟨[u, .int .i64 (c.Take s).2.1]⟩ ∧ Left H (p.F cb) H2 cb (c.Take s).2.2 t u (c.Take s).1 := by
    intro H3 z due' e h3
    rw [e]
    unfold conn_Conn_Take_j0
    exact done_of (h3.rebase k01 hsF) (Int.le_refl _) fun a n cp H4 h4 => ⟨_, _, _, rfl, fun H5 hsh => ⟨_, rfl, h4.shut (Keep.refl _ _) hsh⟩⟩
  have step : ∀ H3 : Heap, CX H2 (p.F cb) H3 cb p none 0 c t due [] → SgArg H3 (p.F cb) s a n ∧ Blk H3 q T_seg_Segment ⟨sgL s a n cp⟩ ∧ Keep (p.F cb) H1 H3 := fun H3 h3 =>
    ⟨(hs1.step k2 (fun _ h => h.elim) fun y hy => .inl hy).step h3.keep (fun y hy => .inl hy) fun y hy => .inl hy, h3.keep.blk b2 hqF, (k2.mono fun _ h => h.elim).trans h3.keep⟩
  refine IfB.intro (fun e1 => r2.cx.at_ ht fun H3 h3 => ?_) fun e1 => r2.cx.at_ ht fun H3 h3 => ?_
  · have e1 : (c.st : Int) = 1 := eq_of_beq e1
    have e : c.Take s = c.answer s := by unfold Cn.Take; rw [if_neg (by rw [ec]; decide), if_neg n0, if_pos (by omega)]
    obtain ⟨hs3, b3, k3⟩ := step H3 h3
    refine ld9 b3 ((answer_spec h3.rep h0 (by omega) hs3 hc).mono ?_)
    rintro _ H4 ⟨rfl, d4, h4⟩
    exact ⟨_, rfl, fin H4 _ d4 e (h4.rebase k3 fun y hy => .inl hy)⟩
  · have n1 : ¬ c.st = 1 := fun e => by rw [e] at e1; cases e1
    have e : c.Take s = c.take s := by unfold Cn.Take; rw [if_neg (by rw [ec]; decide), if_neg n0, if_neg n1]
    obtain ⟨hs3, b3, k3⟩ := step H3 h3
    refine ld9 b3 ((take_spec0 h3.rep (by omega) hs3 hc).mono ?_)
    rintro _ H4 ⟨rfl, d4, h4⟩
    exact ⟨_, rfl, fin H4 _ d4 e (h4.rebase k3 fun y hy => .inl hy)⟩
end
end Go.Proofs.YtmiepjlnfclelaaGreat
end

section
set_option linter.all false
set_option maxRecDepth 100000
namespace Go.Proofs.YtmiepjlnfclelaaGreat
open Go.Sh Go.Pc Go.Conn
section
variable {H0 H H' : Heap} {F0 F F1 : Nat → Prop} {cb gc gn : Nat} {p : CP} {c : Cn} {now due t : Int} {ga : Option Addr} {xs : List (Sg × Option Addr × Nat)} {l : List Sg} {s : Sg} {a : Option Addr} {n cp : Nat}
theorem port_spec {z : Int} : FnW Tryz.prog f_conn_port ⟨[.int .i64 z]⟩ H fun v H' => v = .bool (portB z) ∧ H' = H := by
  refine conn_port_sh z ?_
  unfold conn_port_p
  refine IfB.intro (fun h H2 hs => ⟨?_, (shutE0 hs).symm⟩) fun h H2 hs => ⟨?_, (shutE0 hs).symm⟩
  · have h := of_decide_eq_true h
    unfold portB
    rw [decide_eq_true (by omega : (1 : Int) ≤ z), Bool.true_and]
  · have h := of_decide_eq_false h
    unfold portB
    rw [decide_eq_false (by omega : ¬ (1 : Int) ≤ z), Bool.false_and]
theorem new_ok {src dst : Int} {first : Nat} (hf : first < 4294967296) : (Cn.new src dst first).Ok :=
  ⟨Nat.zero_le _, hf, addN_lt _ _, Nat.zero_le _, Nat.le_refl _, Nat.zero_le _, ⟨by show 1 ≤ 536; omega, by show 536 ≤ 1460; omega⟩, Nat.zero_le _, (fun j hj => by cases hj), (fun h => absurd h (by show ¬ 2 ≤ 0; omega)), (fun h => by cases h)⟩
theorem begun_spec {src dst : Int} {first : Nat} (h0 : 0 ≤ now) (hf : first < 4294967296) : FnW Tryz.prog f_conn_begun ⟨[.int .i64 now, .int .i64 src, .int .i64 dst, .int .u32 first]⟩ H fun v H' =>
    ∃ cb p, v = .pointer (some ⟨cb, 0, none⟩) ∧ CX H Nil H' cb p none 0 (Cn.new src dst first) now (-1) [] := by
  refine conn_begun_sh now src dst first ?_
  unfold conn_begun_p
  refine newB fun cb H1 hcb b1 k1 => ?_
  refine (fresh_raw (g := 536) b1 rfl rfl hf (by omega)).mono ?_
  rintro _ H2 ⟨rfl, ob, eb, b2, ho, k2, hn⟩
  refine ⟨rfl, fun H3 hs => ⟨cb, ⟨ob, eb, none, 0, 0, none⟩, rfl, ?_⟩⟩
  have k : Keep Nil H H2 := k1.then k2 fun y hy => .inr (hy ▸ hcb)
  refine CX.shut (S := Nil) ⟨⟨new_ok hf, ho, h0, trivial, b2, fun y hy => hy.elim⟩, k, fun y hy => ?_, Outs.nil⟩ (Keep.refl _ _) hs
  rcases hy with rfl | hy | hy
  · exact .inr hcb
  · exact .inr (k1.free (hn y hy))
  · exact hy.elim
theorem dial_spec {src dst : Int} {first : Nat} (h0 : 0 ≤ now) (hf : first < 4294967296) (h1 : portB src = true) (h2 : portB dst = true) : FnW Tryz.prog f_conn_Dial ⟨[.int .i64 now, .int .i64 src, .int .i64 dst, .int .u32 first]⟩ H fun v H' =>
    ∃ cb u, v = .tuple ⟨[.pointer (some ⟨cb, 0, none⟩), u, .int .i64 0]⟩ ∧ Left H Nil H' cb (dial src dst first).2 now u (dial src dst first).1 := by
  refine conn_Dial_sh now src dst first ?_
  unfold conn_Dial_p
  refine port_spec.mono ?_
  rintro _ _ ⟨rfl, e⟩
  rw [e, h1]
  clear e
  refine ⟨_, rfl, ifF rfl (port_spec.mono ?_)⟩
  rintro _ _ ⟨rfl, e⟩
  rw [e, h2]
  clear e
  refine ⟨_, rfl, ifF rfl ?_⟩
  unfold conn_Dial_j0
  refine ifF (decide_eq_false (by omega)) ((begun_spec h0 hf).mono ?_)
  rintro _ H1 ⟨cb, p, rfl, h1⟩
  refine ⟨_, rfl, NilP.intro _ rfl (stL h1.rep.blk (by simp [cnL]) rfl fun H2 b2 k2 => ?_)⟩
  have ok := h1.rep.ok
  have h2 := h1.put (c' := { Cn.new src dst first with st := 1 }) k2 b2 ⟨by show 1 ≤ 9; omega, ok.first, ok.una, ok.len, ok.sent, ok.win, ok.big, ok.tries, ok.inn, (fun h => absurd h (by show ¬ 2 ≤ 1; omega)), ok.got⟩ rfl rfl h1.rep.le
  refine (cn_hello h2.cin (by decide)).mono ?_
  rintro _ H3 ⟨rfl, h3⟩
  refine ⟨rfl, done_of h3 (Int.le_refl _) fun a n cp H4 h4 => ⟨_, _, _, rfl, fun H5 hsh => ⟨cb, _, rfl, h4.shut (Keep.refl _ _) hsh⟩⟩⟩
/-- How a connection that was dialled begins. -/
theorem begin_new (hb : Blk H cb T_conn_Conn ⟨cnL c p.ob none now due none 0 0⟩) (k0 : Keep Nil H0 H) (hcb : H0 cb = none) (h0 : 0 ≤ now) (hf : c.first < 4294967296) (hst : c.st ≤ 9) (hg : 0 ≤ s.big) (hs : s.seq < 4294967296) :
    FnW Tryz.prog f_conn_Conn_begin ⟨[.pointer (some ⟨cb, 0, none⟩), .agg ⟨sgL s a n cp⟩]⟩ H fun v H' => v = .tuple ⟨[]⟩ ∧ ∃ p', CX H0 Nil H' cb p' none 0 (c.begin s) now due [] := by
  refine conn_Conn_begin_sh cb _ _ _ _ _ _ _ _ a n cp ?_
  unfold conn_Conn_begin_p
  refine newB fun q H1 hq b1 k1 => ⟨_, cellL b1 2 rfl, (seq_Add_spec (n := 1) hs).mono ?_⟩
  rintro _ _ ⟨rfl, e⟩
  rw [e]
  refine ⟨_, rfl, (joint_New _ (addN_lt s.seq 1)).mono ?_⟩
  rintro _ H2 ⟨jb, rb, hb', rfl, hj, k2, hn⟩
  have c2 := k2.blk (k1.blk hb id) id
  have k02 := (k0.trans k1).trans k2
  refine ⟨_, _, rfl, stL c2 (by simp [cnL]) rfl fun H3 c3 k3 => ?_⟩
  have hqc : ¬ q = cb := fun e => hb.some (e ▸ hq)
  have b3 : Blk H3 q T_seg_Segment ⟨sgL s a n cp⟩ := k3.blk (k2.blk b1 id) hqc
  have hjc : ∀ y, JFt jb rb hb' none y → ¬ y = cb := fun y hy e => (k1.blk hb id).some (by rw [← e]; exact hn y hy)
  have hj3 := hj.keep k3 hjc
  refine ld9 b3 ((greatest_spec hg).mono ?_)
  rintro _ H4 ⟨rfl, k4⟩
  have hj4 := hj3.keep k4 fun _ _ h => h
  refine ⟨_, rfl, (fresh_raw (g := greatest s) (k4.blk c3 id) rfl rfl hf (greatest_le hg)).mono ?_⟩
  rintro _ H5 ⟨rfl, ob, eb, c5, ho, k5, hn5⟩
  have k05 : Keep Nil H0 H5 := ((k02.then k3 fun y hy => .inr (hy ▸ hcb)).trans k4).then k5 fun y hy => .inr (hy ▸ hcb)
  refine ⟨rfl, fun H6 hsh => ⟨rfl, ⟨ob, eb, none, 0, 0, some ⟨jb, rb, hb', none, 0, 0⟩⟩, CX.shut (S := Nil) ⟨⟨⟨hst, hf, addN_lt _ _, Nat.zero_le _, Nat.le_refl _, Nat.zero_le _, greatest_le hg, Nat.zero_le _, fun j hj' => ?_, fun _ => by simp [Cn.begin], fun _ => by simp [Cn.begin]⟩, ho, h0, ?_, c5, fun y hy hO => ?_⟩, k05, fun y hy => ?_, Outs.nil⟩ k0 hsh⟩⟩
  · cases hj'; exact hj4.ok
  · exact hj4.keep k5 hjc
  · exact hj4.live hy (hn5 y hO)
  · refine .inr ?_
    rcases hy with rfl | hy | hy
    · exact hcb
    · exact ((k02.then k3 fun y hy => .inr (hy ▸ hcb)).trans k4).free (hn5 y hy)
    · exact (k0.trans k1).free (hn y hy)
theorem accept_spec {first : Nat} (h0 : 0 ≤ now) (hf : first < 4294967296) (hs : SgArg H Nil s a n) (hc : s.can = true) (h1 : portB s.src = true) (h2 : portB s.dst = true) (hy : s.syn = true) (ha : s.acks = false) (hr : s.rst = false) (hfi : s.fin = false) (hd : s.data = []) :
    FnW Tryz.prog f_conn_Accept ⟨[.int .i64 now, .agg ⟨sgL s a n cp⟩, .int .u32 first]⟩ H fun v H' =>
    ∃ cb u, v = .tuple ⟨[.pointer (some ⟨cb, 0, none⟩), u, .int .i64 0]⟩ ∧ Left H Nil H' cb (accept s first).2 now u (accept s first).1 := by
  refine conn_Accept_sh now _ _ _ _ _ _ _ _ a n cp first ?_
  unfold conn_Accept_p
  obtain ⟨hf0, hf1⟩ := can_flags hc
  obtain ⟨bt0, bt1, bt2, bt4, bt21⟩ := bits_flag hf0 hf1
  have hln := hs.len
  rw [hd] at hln
  have hln : n = 0 := hln.symm
  refine newB fun q H1 hq b1 k1 => ld9 b1 ((has_spec hf0 hf1 bt1).mono ?_)
  rintro _ H2 ⟨rfl, k2⟩
  have b2 := k2.blk b1 id
  refine ⟨_, rfl, ifF (by rw [show bitB s.flags 1 = true from hy]; rfl) (ld9 b2 ((has_spec hf0 hf1 bt21).mono ?_))⟩
  rintro _ H3 ⟨rfl, k3⟩
  have b3 := k3.blk b2 id
  have k03 := (k1.trans k2).trans k3
  refine ⟨_, rfl, ifF (by rw [show bitB s.flags 4 = false from ha, show bitB s.flags 2 = false from hr, show bitB s.flags 0 = false from hfi]; rfl) ⟨_, _, _, cellL b3 8 rfl, ?_⟩⟩
  unfold conn_Accept_j0
  refine ld9 b3 ((can_spec (hs.rd.keep k03 fun _ _ h => h)).mono ?_)
  rintro _ H4 ⟨rfl, k4⟩
  have b4 := k4.blk b3 id
  have k04 := k03.trans k4
  refine ⟨_, rfl, ifF (by rw [hc]; rfl) ⟨_, cellL b4 0 rfl, port_spec.mono ?_⟩⟩
  rintro _ _ ⟨rfl, e⟩
  rw [e, h1]
  clear e
  refine ⟨_, rfl, ifF rfl ⟨_, cellL b4 1 rfl, port_spec.mono ?_⟩⟩
  rintro _ _ ⟨rfl, e⟩
  rw [e, h2]
  clear e
  refine ⟨_, rfl, ifF rfl (ifF (decide_eq_false (by omega)) ?_)⟩
  unfold conn_Accept_j1
  refine ifF (decide_eq_false (by rw [hln]; omega)) ⟨_, cellL b4 1 rfl, _, cellL b4 0 rfl, (begun_spec h0 hf).mono ?_⟩
  rintro _ H5 ⟨cb, p, rfl, h5⟩
  refine ⟨_, rfl, NilP.intro _ rfl (stL h5.rep.blk (by simp [cnL]) rfl fun H6 b6 k6 => ?_)⟩
  have ok := h5.rep.ok
  have b5 : Blk H5 q T_seg_Segment ⟨sgL s a n cp⟩ := h5.keep.blk b4 id
  have hqc : ¬ q = cb := fun e => by
    have := h5.sub cb (.inl rfl)
    rcases this with z | z
    · exact z
    · exact b4.some (e ▸ z)
  have b6' := k6.blk b5 hqc
  have hcb : H cb = none := k04.free ((h5.sub cb (.inl rfl)).elim (fun z => z.elim) id)
  have k06 : Keep Nil H H6 := (k04.trans h5.keep).then k6 fun y hy => .inr (hy ▸ hcb)
  have hip : p.ip = none := by
    have hi := h5.rep.inn
    unfold CP.ip
    cases hj : p.jp with
    | none => rfl
    | some j => rw [hj] at hi; exact hi.elim
  rw [hip] at b6
  refine ld9 b6' ((begin_new (H0 := H) (c := { Cn.new s.dst s.src first with st := 2 }) b6 k06 hcb h0 hf (by show 2 ≤ 9; omega) (can_big hc) hs.seq).mono ?_)
  rintro _ H7 ⟨rfl, p', h7⟩
  refine ⟨rfl, (cn_hello h7.cin (by decide)).mono ?_⟩
  rintro _ H8 ⟨rfl, h8⟩
  refine ⟨rfl, done_of h8 (Int.le_refl _) fun a n cp H9 h9 => ⟨_, _, _, rfl, fun H10 hsh => ⟨cb, _, rfl, h9.shut (Keep.refl _ _) hsh⟩⟩⟩
theorem State_spec (h : CRep H cb p c now due ga gn gc) : FnW Tryz.prog f_conn_Conn_State ⟨[.pointer (some ⟨cb, 0, none⟩)]⟩ H fun v H' => v = .int .i64 c.st ∧ H' = H := by
  refine conn_Conn_State_sh cb ?_
  unfold conn_Conn_State_p
  refine (cn_is h).mono ?_
  rintro _ _ ⟨rfl, e⟩
  rw [e]
  exact ⟨true, rfl, ifF rfl ⟨_, cellL h.blk 0 rfl, fun H2 hs => ⟨rfl, (shutE0 hs).symm⟩⟩⟩
def Cn_ended (c : Cn) : Bool := c.got && decide ((c.inn.map fun j => j.rdy.length).getD 0 = 0)
theorem Ended_spec (h : CRep H cb p c now due ga gn gc) : FnW Tryz.prog f_conn_Conn_Ended ⟨[.pointer (some ⟨cb, 0, none⟩)]⟩ H fun v H' => v = .bool (Cn_ended c) ∧ H' = H := by
  refine conn_Conn_Ended_sh cb ?_
  unfold conn_Conn_Ended_p
  refine (cn_is h).mono ?_
  rintro _ _ ⟨rfl, e⟩
  rw [e]
  clear e
  unfold Cn_ended
  refine ⟨true, rfl, ifT rfl ⟨_, cellL h.blk 9 rfl, IfB.intro (fun eg => ⟨_, cellL h.blk 5 rfl, (jn_Ready h.inn).mono ?_⟩) fun eg => fun H2 hs => ⟨by rw [show c.got = false from eg]; rfl, (shutE0 hs).symm⟩⟩⟩
  rintro _ _ ⟨rfl, e⟩
  rw [e]
  refine ⟨_, rfl, fun H2 hs => ⟨?_, (shutE0 hs).symm⟩⟩
  rw [show c.got = true from eg, Bool.true_and]
  congr 1
  rw [Bool.eq_iff_iff, beq_iff_eq, decide_eq_true_eq]
  omega
end
end Go.Proofs.YtmiepjlnfclelaaGreat
end

section
set_option linter.all false
set_option maxRecDepth 100000
namespace Go.Pc
open Go.Sh
/-- Sets of blocks that are apart, and new since H0. -/
structure Reg (H0 H : Heap) (A : Nat → Nat → Prop) : Prop where
  live : ∀ i y, A i y → H y ≠ none
  new : ∀ i y, A i y → H0 y = none
  apart : ∀ i j, i ≠ j → ∀ y, A i y → ¬ A j y
def upA (A : Nat → Nat → Prop) (i : Nat) (X : Nat → Prop) : Nat → Nat → Prop := fun j => if j = i then X else A j
theorem upA_eq {A : Nat → Nat → Prop} {i : Nat} {X : Nat → Prop} : upA A i X i = X := if_pos rfl
theorem upA_ne {A : Nat → Nat → Prop} {i j : Nat} {X : Nat → Prop} (h : j ≠ i) : upA A i X j = A j := if_neg h
theorem Reg.keep {H0 H H' : Heap} {A : Nat → Nat → Prop} {S : Nat → Prop} (h : Reg H0 H A) (k : Keep S H H') : Reg H0 H' A := ⟨fun i y hy => k.live y (h.live i y hy), h.new, h.apart⟩
/-- One of them is turned, and may grow. -/
theorem Reg.step {H0 H H' : Heap} {A : Nat → Nat → Prop} {i : Nat} {X S S0 : Nat → Prop} (h : Reg H0 H A) (k0 : Keep S0 H0 H) (k : Keep S H H') (h1 : ∀ y, X y → A i y ∨ H y = none) (h2 : ∀ y, X y → H' y ≠ none) : Reg H0 H' (upA A i X) := by
  refine ⟨fun j y hy => ?_, fun j y hy => ?_, fun j l hjl y hy hz => ?_⟩
  · by_cases e : j = i
    · subst e; rw [upA_eq] at hy; exact h2 y hy
    · rw [upA_ne e] at hy; exact k.live y (h.live j y hy)
  · by_cases e : j = i
    · subst e; rw [upA_eq] at hy
      rcases h1 y hy with e | e
      · exact h.new j y e
      · exact k0.free e
    · rw [upA_ne e] at hy; exact h.new j y hy
  · by_cases ej : j = i
    · subst ej
      rw [upA_eq] at hy
      have el : l ≠ j := fun e => hjl e.symm
      rw [upA_ne el] at hz
      rcases h1 y hy with e | e
      · exact h.apart j l hjl y e hz
      · exact h.live l y hz e
    · rw [upA_ne ej] at hy
      by_cases el : l = i
      · subst el
        rw [upA_eq] at hz
        rcases h1 y hz with e | e
        · exact h.apart j l hjl y hy e
        · exact h.live j y hy e
      · rw [upA_ne el] at hz
        exact h.apart j l hjl y hy hz
end Go.Pc
namespace Go.Conn
/-- A number below n that x stands for. -/
def amongV (x : Int) (n : Nat) : Nat := ((x % 18446744073709551616) % n).toNat
theorem amongV_lt (x : Int) {n : Nat} (h : 0 < n) : amongV x n < n := by
  unfold amongV
  have h1 := Int.emod_nonneg (x % 18446744073709551616) (b := (n : Int)) (by omega)
  have h2 := Int.emod_lt_of_pos (x % 18446744073709551616) (b := (n : Int)) (by omega)
  omega
end Go.Conn
namespace Go.Proofs.YtmiepjlnfclelaaGreat
open Go.Sh Go.Pc Go.Conn
section
variable {H : Heap}
theorem among_spec (x : Int) {n : Nat} (h0 : 0 < n) (h1 : n < 2 ^ 62) : FnW Tryz.prog f_base_Among ⟨[.int .i64 x, .int .i64 n]⟩ H fun v H' => v = .int .i64 (amongV x n) ∧ H' = H := by
  refine base_Among_sh x n ?_
  unfold base_Among_p
  refine ifF (decide_eq_false (by omega)) ?_
  have hw : IntKind.wrap .u64 (n : Int) = n := by
    change (n : Int) % 18446744073709551616 = n
    omega
  have hx : IntKind.wrap .u64 x = x % 18446744073709551616 := rfl
  have h3 := Int.emod_nonneg x (b := 18446744073709551616) (by omega)
  have h4 : Int.tmod (x % 18446744073709551616) n = (amongV x n : Nat) := by
    rw [Int.tmod_eq_emod_of_nonneg h3]
    unfold amongV
    have := Int.emod_nonneg (x % 18446744073709551616) (b := (n : Int)) (by omega)
    omega
  have h5 := amongV_lt x h0
  refine ⟨by rw [hw]; omega, ?_⟩
  rw [hw, hx, h4, wrap_id (by omega) (by omega)]
  exact fun H2 hs => ⟨rfl, (shutE0 hs).symm⟩
theorem semW_pushI {P : Program} {K : ByteArray → Heap → Prop} : ∀ (bs : List Int) (s : ByteArray), K ⟨s.data ++ (bs.map fun x => UInt8.ofNat x.toNat).toArray⟩ H →
    SemW P (forIn (bv bs) s fun c r => (match c with
        | .int .u8 n => pure (ForInStep.yield (r.push (UInt8.ofNat n.toNat)))
        | _ => do
          stuck "bytesToString: byte expected"
          pure (ForInStep.yield r) : Sem (ForInStep ByteArray))) H K := by
  intro bs
  induction bs with
  | nil => intro s h; simpa [bv, pure, SemW] using h
  | cons x xs ih =>
    intro s h
    rw [show bv (x :: xs) = Value.int .u8 x :: bv xs from rfl, List.forIn_cons]
    refine (SemW.bind _ _ _ _).2 ?_
    change SemW P (forIn (bv xs) (s.push (UInt8.ofNat x.toNat)) _) H K
    refine ih (s.push (UInt8.ofNat x.toNat)) ?_
    have : (⟨(s.push (UInt8.ofNat x.toNat)).data ++ (xs.map fun x => UInt8.ofNat x.toNat).toArray⟩ : ByteArray) = ⟨s.data ++ ((x :: xs).map fun x => UInt8.ofNat x.toNat).toArray⟩ := by
      have : (s.push (UInt8.ofNat x.toNat)).data = s.data.push (UInt8.ofNat x.toNat) := by cases s; rfl
      rw [this]
      congr 1
      apply Array.ext'
      simp
    rw [this]; exact h
theorem StrI {P : Program} {s d e : TypeId} {a : Option Addr} {n c : Nat} {bs : List Int} {K : Value → Heap → Prop} (hs : P.underlying s = some (.slice e)) (hd : P.underlying d = some .string) (he : P.underlying e = some (.int .u8))
    (hr : Reads H a n (bv bs)) (hk : K (.string (bstr (bs.map fun x => UInt8.ofNat x.toNat))) H) : SemW P (convert s d (.slice a n c)) H K := by
  unfold convert
  refine (SemW.bind _ _ _ _).2 (semW_underlying hs ?_)
  refine (SemW.bind _ _ _ _).2 (semW_underlying hd ?_)
  change SemW P (underlying e >>= _) H K
  refine (SemW.bind _ _ _ _).2 (semW_underlying he ?_)
  change SemW P (Conv.bytesToString (.slice a n c)) H K
  unfold Conv.bytesToString
  cases a with
  | none =>
    obtain ⟨hl, h0⟩ := hr
    simp only at h0
    subst h0
    have : bs = [] := by simpa using hl
    subst this
    exact hk
  | some a =>
    change SemW P (loadCells a n >>= _) H K
    refine (SemW.bind _ _ _ _).2 (semW_reads hr ?_)
    have h := semW_pushI (P := P) (H := H) (K := fun s H' => K (.string s) H') bs ByteArray.empty (by simpa [bstr] using hk)
    simp only [← Array.forIn_toList]
    exact (SemW.bind _ _ _ _).2 h
theorem same_bytes {a a' : Option Addr} {n n' c c' : Nat} {l : List Int} (h : Reads H a n (bv l)) (h' : Reads H a' n' (bv l)) : FnW Tryz.prog f_base_SameBytes ⟨[.slice a n c, .slice a' n' c']⟩ H fun v H' => v = .bool true ∧ H' = H := by
  refine base_SameBytes_sh a n c a' n' c' ?_
  unfold base_SameBytes_p
  refine StrI (e := T_uint8) (by kernel_rfl) (by kernel_rfl) (by kernel_rfl) h ⟨_, rfl, StrI (e := T_uint8) (by kernel_rfl) (by kernel_rfl) (by kernel_rfl) h' ⟨_, rfl, fun H2 hs => ⟨?_, (shutE0 hs).symm⟩⟩⟩
  rw [beq_self_eq_true]
theorem bytes_spec {a : Option Addr} {n c : Nat} {l : List Int} (hr : Reads H a n (bv l)) (hn : n ≤ 1000000) : FnW Tryz.prog f_base_Bytes ⟨[.slice a n c]⟩ H fun v H' => Fresh H H' v l ∧ Keep Nil H H' := by
  have hl : l.length = n := by have := hr.len; simpa using this
  refine base_Bytes_sh a n c ?_
  unfold base_Bytes_p
  refine newB fun q H1 hq b1 k1 => ?_
  refine app_bytes (xs := []) (new := l) (Sh.Own.start hq b1) k1 (hr.keep k1 fun _ _ h => h) (by omega) fun a' cap' H2 o2 _ _ k2 => ⟨_, _, _, rfl, fun H3 hs => ⟨⟨a', cap', ?_, ?_⟩, shutK k2 hs⟩⟩
  · rw [Nat.zero_add, hl]
  · rw [Nat.zero_add] at o2
    rw [hl]
    exact shutO o2 hs
/-- A segment with a copy of at most a hundred of its bytes. -/
theorem few_spec {s : Sg} {a : Option Addr} {n c : Nat} (hr : Reads H a n (bv s.data)) (hc : n ≤ c) : FnW Tryz.prog f_law15_few ⟨[.agg ⟨sgL s a n c⟩]⟩ H fun v H' =>
    ∃ a' m c' d, v = .agg ⟨sgL s a' m c'⟩ ∧ d = s.data.take (min n 100) ∧ m = d.length ∧ Sh.Own H H' a' m c' 1 T_uint8 (bv d) ∧ Keep Nil H H' := by
  have hl : s.data.length = n := by have := hr.len; simpa using this
  refine law15_few_sh _ _ _ _ _ _ _ _ a n c ?_
  unfold law15_few_p
  refine newB fun q H1 hq b1 k1 => newB fun r H2 hr2 b2 k2 => ?_
  have b12 := k2.blk b1 id
  have hqr : q ≠ r := fun e => b1.some (e ▸ hr2)
  have hrd : Reads H2 a (min n 100) (bv (s.data.take (min n 100))) := by
    have := ((hr.keep k1 fun _ _ h => h).keep k2 fun _ _ h => h).take (m := min n 100) (by omega)
    have e : (bv s.data).take (min n 100) = bv (s.data.take (min n 100)) := by simp [bv, List.map_take]
    rw [e] at this; exact this
  refine ⟨_, _, _, cellL b12 8 rfl, _, _, _, cellL b12 8 rfl, InC.intro (min n 100) (by omega) (by omega) ((bytes_spec hrd (by omega)).mono ?_)⟩
  rintro _ H3 ⟨⟨a', c', rfl, o3⟩, k3⟩
  have b13 := k3.blk b12 id
  have b23 := k3.blk b2 id
  refine ⟨_, _, _, rfl, stL b13 (by simp) rfl fun H4 b4 k4 => ?_⟩
  have b24 := k4.blk b23 hqr.symm
  refine ld9 (s := s) b4 (st9 (s := s) b24 fun H5 b5 k5 => ld9 b5 fun H6 hs => ?_)
  have k02 := k1.trans k2
  refine ⟨a', _, c', _, rfl, rfl, rfl, shutO ((((o3.mono k02)).keep k4 fun x hx e => ?_).keep k5 fun x hx e => ?_) hs, shutK (((k02.trans k3).then k4 fun y hy => .inr (hy ▸ hq)).then k5 fun y hy => .inr (hy ▸ k1.free hr2)) hs⟩
  · have hf := o3.free hx
    rw [e] at hf
    exact b12.some hf
  · have hf := o3.free hx
    rw [e] at hf
    exact b2.some hf
end
end Go.Proofs.YtmiepjlnfclelaaGreat
end

section
set_option linter.all false
set_option maxRecDepth 100000
namespace Go.Pc
open Go.Sh
/-- What is apart from a region is not turned. -/
theorem Reg.ns {H0 H : Heap} {A : Nat → Nat → Prop} {i j : Nat} {S : Nat → Prop} (h : Reg H0 H A) (hS : ∀ y, S y → A i y ∨ H y = none) (hj : j ≠ i) : ∀ y, A j y → ¬ S y := fun y hy hs => by
  rcases hS y hs with e | e
  · exact h.apart j i hj y hy e
  · exact h.live j y hy e
end Go.Pc
namespace Go.Proofs.YtmiepjlnfclelaaGreat
open Go.Sh Go.Pc Go.Conn
structure SegX (H : Heap) (D : Nat → Prop) (x : Sg × Option Addr × Nat) : Prop where
  seq : x.1.seq < 4294967296
  ack : x.1.ack < 4294967296
  rd : Reads H x.2.1 x.1.data.length (bv x.1.data)
  at_ : ∀ a, x.2.1 = some a → D a.block
theorem SegX.keep {H H' : Heap} {D D' S : Nat → Prop} {x : Sg × Option Addr × Nat} (h : SegX H D x) (k : Keep S H H') (hs : ∀ y, D y → ¬ S y) (hd : ∀ y, D y → D' y) : SegX H' D' x :=
  ⟨h.seq, h.ack, h.rd.keep k fun a ha => hs _ (h.at_ a ha), fun a ha => hd _ (h.at_ a ha)⟩
def rowAt (H : Heap) (G : Nat → Prop) (v : Value) (l : List Int) : Prop := ∃ a c, v = .slice a l.length c ∧ Sh.Own emp H a l.length c 1 T_uint8 (bv l) ∧ ∀ y, a = some ⟨y, 0, none⟩ → G y
def wayAt (H : Heap) (G D : Nat → Prop) (v : Value) (l : List Sg) : Prop := ∃ a c xs, v = .slice a xs.length c ∧ xs.map (·.1) = l ∧ Sh.Own emp H a xs.length c 9 T_seg_Segment (sgsL xs) ∧ (∀ y, a = some ⟨y, 0, none⟩ → G y) ∧ ∀ x ∈ xs, SegX H D x
section
variable {H0 H H' : Heap} {G D D' S : Nat → Prop} {v : Value}
theorem rowAt.keep {l : List Int} (h : rowAt H G v l) (k : Keep S H H') (hs : ∀ y, G y → ¬ S y) : rowAt H' G v l := by
  obtain ⟨a, c, h1, h2, h3⟩ := h
  exact ⟨a, c, h1, h2.keep k fun y hy => hs y (h3 y hy), h3⟩
theorem wayAt.keep {l : List Sg} (h : wayAt H G D v l) (k : Keep S H H') (hs : ∀ y, G y → ¬ S y) (hd : ∀ y, D y → ¬ S y) (hD : ∀ y, D y → D' y) : wayAt H' G D' v l := by
  obtain ⟨a, c, xs, h1, h2, h3, h4, h5⟩ := h
  exact ⟨a, c, xs, h1, h2, h3.keep k fun y hy => hs y (h4 y hy), h4, fun x hx => (h5 x hx).keep k hd hD⟩
theorem CAt.keep {cb : Nat} {F : Nat → Prop} {c : Cn} {t : Int} (h : CAt H cb F c t) (k : Keep S H H') (hs : ∀ y, F y → ¬ S y) : CAt H' cb F c t := by
  obtain ⟨p, now, due, h1, h2, h3, rfl⟩ := h.ex
  exact ⟨p, now, due, h1.keep k hs, h2, h3, rfl⟩
theorem CAt.later {cb : Nat} {F : Nat → Prop} {c : Cn} {t t' : Int} (h : CAt H cb F c t) (ht : t ≤ t') : CAt H cb F c t' := by
  obtain ⟨p, now, due, h1, h2, h3⟩ := h.ex
  exact ⟨p, now, due, h1, Int.le_trans h2 ht, h3⟩
end
def pL (cb : Nat → Nat) (wv rv yv : Nat → Value) (now : Int) (lost : Bool) (g : Nat → Bool) : List Value :=
  [.pointer (some ⟨cb 0, 0, none⟩), .pointer (some ⟨cb 1, 0, none⟩), wv 0, wv 1, rv 0, rv 1, yv 0, yv 1, .int .i64 now, .bool lost, .bool (g 0), .bool (g 1)]
/-- What the law keeps; regions: 0, 1 the connections, 2 the pair, 3, 4 what was written, 5, 6 what was read, 7, 8 the ways, 9 the data on their way. -/
structure PBlk (H : Heap) (pb : Nat) (A : Nat → Nat → Prop) (cb : Nat → Nat) (W : PW) (now : Int) (wv rv yv : Nat → Value) (lost : Bool) (g : Nat → Bool) : Prop where
  blk : Blk H pb T_law15_pair ⟨pL cb wv rv yv now lost g⟩
  w : ∀ k, k < 2 → rowAt H (A (3 + k)) (wv k) (W.w k)
  r : ∀ k, k < 2 → rowAt H (A (5 + k)) (rv k) (W.r k)
  y : ∀ k, k < 2 → wayAt H (A (7 + k)) (A 9) (yv k) (W.y k)
structure PAt (H0 H : Heap) (pb : Nat) (A : Nat → Nat → Prop) (cb : Nat → Nat) (W : PW) (now : Int) : Prop where
  reg : Reg H0 H A
  keep : Keep Nil H0 H
  pos : 0 ≤ now
  own : A 2 pb
  con : ∀ k, k < 2 → CAt H (cb k) (A k) (W.c k) now
  ex : ∃ wv rv yv lost g, PBlk H pb A cb W now wv rv yv lost g
section
variable {H0 H H' : Heap} {pb : Nat} {A : Nat → Nat → Prop} {cb : Nat → Nat} {W : PW} {now : Int} {k : Nat}
theorem pL_cb {cb : Nat → Nat} {wv rv yv : Nat → Value} {lost : Bool} {g : Nat → Bool} (hk : k < 2) : (pL cb wv rv yv now lost g)[0 + k * 1]? = some (.pointer (some ⟨cb k, 0, none⟩)) := by
  rcases two_cases hk with rfl | rfl <;> rfl
theorem pL_w {cb : Nat → Nat} {wv rv yv : Nat → Value} {lost : Bool} {g : Nat → Bool} (hk : k < 2) : (pL cb wv rv yv now lost g)[2 + k * 1]? = some (wv k) := by
  rcases two_cases hk with rfl | rfl <;> rfl
theorem pL_r {cb : Nat → Nat} {wv rv yv : Nat → Value} {lost : Bool} {g : Nat → Bool} (hk : k < 2) : (pL cb wv rv yv now lost g)[4 + k * 1]? = some (rv k) := by
  rcases two_cases hk with rfl | rfl <;> rfl
theorem pL_y {cb : Nat → Nat} {wv rv yv : Nat → Value} {lost : Bool} {g : Nat → Bool} (hk : k < 2) : (pL cb wv rv yv now lost g)[6 + k * 1]? = some (yv k) := by
  rcases two_cases hk with rfl | rfl <;> rfl
theorem pL_setw {cb : Nat → Nat} {wv rv yv : Nat → Value} {lost : Bool} {g : Nat → Bool} {v : Value} (hk : k < 2) : (pL cb wv rv yv now lost g).set (2 + k * 1) v = pL cb (upF wv k v) rv yv now lost g := by
  rcases two_cases hk with rfl | rfl <;> rfl
theorem pL_setr {cb : Nat → Nat} {wv rv yv : Nat → Value} {lost : Bool} {g : Nat → Bool} {v : Value} (hk : k < 2) : (pL cb wv rv yv now lost g).set (4 + k * 1) v = pL cb wv (upF rv k v) yv now lost g := by
  rcases two_cases hk with rfl | rfl <;> rfl
theorem pL_sety {cb : Nat → Nat} {wv rv yv : Nat → Value} {lost : Bool} {g : Nat → Bool} {v : Value} (hk : k < 2) : (pL cb wv rv yv now lost g).set (6 + k * 1) v = pL cb wv rv (upF yv k v) now lost g := by
  rcases two_cases hk with rfl | rfl <;> rfl
theorem pL_setg {cb : Nat → Nat} {wv rv yv : Nat → Value} {lost : Bool} {g : Nat → Bool} {v : Bool} (hk : k < 2) : (pL cb wv rv yv now lost g).set (10 + k * 1) (.bool v) = pL cb wv rv yv now lost (upF g k v) := by
  rcases two_cases hk with rfl | rfl <;> rfl
theorem pL_len {cb : Nat → Nat} {wv rv yv : Nat → Value} {lost : Bool} {g : Nat → Bool} : (pL cb wv rv yv now lost g).length = 12 := rfl
theorem PAt.shut {H1 H2 : Heap} (h : PAt H0 H pb A cb W now) (k1 : Keep Nil H0 H1) (hs : Shut H1 H H2) : PAt H0 H2 pb A cb W now := by
  have hsame : ∀ i y, A i y → H2 y = H y ∨ ∃ b, H y = some (.deferred b) := fun i y hy => by
    rcases hs y with e | ⟨_, e, _⟩
    · exact .inl e
    · exact .inr ⟨_, e⟩
  obtain ⟨wv, rv, yv, lost, g, hb⟩ := h.ex
  have row : ∀ {G : Nat → Prop} {v : Value} {l : List Int}, rowAt H G v l → rowAt H2 G v l := fun ⟨a, c, h1, h2, h3⟩ => ⟨a, c, h1, shutO h2 hs, h3⟩
  refine ⟨⟨fun i y hy => ?_, h.reg.new, h.reg.apart⟩, shutK (H0 := H0) h.keep (fun b => (hs b).imp id fun ⟨a, r⟩ => ⟨k1.free a, r⟩), h.pos, h.own, fun k hk => ?_, wv, rv, yv, lost, g, shutB hb.blk hs, fun k hk => row (hb.w k hk), fun k hk => row (hb.r k hk), fun k hk => ?_⟩
  · have := h.reg.live i y hy
    rcases hs y with e | ⟨_, _, e⟩
    · rw [e]; exact this
    · rw [e]; simp
  · obtain ⟨p, now', due, h1, h2, h3, h4⟩ := (h.con k hk).ex
    exact ⟨p, now', due, h1.shut hs, h2, h3, h4⟩
  · obtain ⟨a, c, xs, h1, h2, h3, h4, h5⟩ := hb.y k hk
    exact ⟨a, c, xs, h1, h2, shutO h3 hs, h4, fun x hx => ⟨(h5 x hx).seq, (h5 x hx).ack, reads_shut (h5 x hx).rd hs, (h5 x hx).at_⟩⟩
/-- Nothing is turned. -/
theorem PAt.nil (h : PAt H0 H pb A cb W now) (k : Keep Nil H H') : PAt H0 H' pb A cb W now := by
  obtain ⟨wv, rv, yv, lost, g, hb⟩ := h.ex
  exact ⟨h.reg.keep k, h.keep.trans k, h.pos, h.own, fun i hi => (h.con i hi).keep k fun _ _ h => h, wv, rv, yv, lost, g, k.blk hb.blk id, fun i hi => (hb.w i hi).keep k fun _ _ h => h, fun i hi => (hb.r i hi).keep k fun _ _ h => h, fun i hi => (hb.y i hi).keep k (fun _ _ h => h) (fun _ _ h => h) fun _ h => h⟩
/-- A call of a connection has come to its end. -/
theorem PAt.call {c' : Cn} {v : Value} {l : List Sg} (h : PAt H0 H pb A cb W now) (hk : k < 2) (hl : Left H (A k) H' (cb k) c' now v l) :
    ∃ A' a xs cap, v = .slice a xs.length cap ∧ xs.map (·.1) = l ∧ PAt H0 H' pb A' cb { W with c := upF W.c k c' } now ∧ Reads H' a (xs.length * 9) (sgsL xs) ∧ (∀ x ∈ xs, SegX H' (A' 9) x) ∧ ∀ x, a = some x → H' x.block ≠ none ∧ ∀ i, ¬ A' i x.block := by
  obtain ⟨p, now', due, ga, gc, xs, hv, hx, hn, hr, hd, kk, hsub, ho⟩ := hl.ex
  obtain ⟨wv, rv, yv, lost, g, hb⟩ := h.ex
  have hS : ∀ y, A k y → A k y ∨ H y = none := fun y hy => .inl hy
  have ns : ∀ j, j ≠ k → ∀ y, A j y → ¬ A k y := fun j hj => h.reg.ns hS hj
  have hk9 : (9 : Nat) ≠ k := by omega
  let X : Nat → Prop := fun y => A 9 y ∨ ∃ x ∈ xs, ∃ a, x.2.1 = some a ∧ a.block = y
  have hXold : ∀ y, A 9 y → X y := fun y hy => .inl hy
  have hnew : ∀ x ∈ xs, ∀ a, x.2.1 = some a → H a.block = none ∧ ¬ p.F (cb k) a.block ∧ ∃ c, Blk H' a.block T_uint8 c := fun x hx a ha => (ho.all x hx).new a ha
  let A' : Nat → Nat → Prop := fun j => if j = 9 then X else if j = k then p.F (cb k) else A j
  have e9 : A' 9 = X := rfl
  have ek : A' k = p.F (cb k) := by show (if k = 9 then X else if k = k then _ else _) = _; rw [if_neg hk9.symm, if_pos rfl]
  have ej : ∀ j, j ≠ 9 → j ≠ k → A' j = A j := fun j h1 h2 => by show (if j = 9 then X else if j = k then _ else _) = _; rw [if_neg h1, if_neg h2]
  have reg' : Reg H0 H' A' := by
    have hold : ∀ j y, A' j y → A j y ∨ H y = none := fun j y hy => by
      by_cases e : j = 9
      · subst e
        rcases hy with hy | ⟨x, hx, a, ha, rfl⟩
        · exact .inl hy
        · exact .inr (hnew x hx a ha).1
      · by_cases e2 : j = k
        · subst e2; rw [ek] at hy; exact hsub y hy
        · rw [ej j e e2] at hy; exact .inl hy
    refine ⟨fun j y hy => ?_, fun j y hy => ?_, fun i j hij y hi hj => ?_⟩
    · by_cases e : j = 9
      · subst e
        rcases hy with hy | ⟨x, hx, a, ha, rfl⟩
        · exact kk.live y (h.reg.live 9 y hy)
        · obtain ⟨_, _, c, hc⟩ := hnew x hx a ha; exact hc.some
      · by_cases e2 : j = k
        · subst e2; rw [ek] at hy; exact hr.live hy
        · rw [ej j e e2] at hy; exact kk.live y (h.reg.live j y hy)
    · rcases hold j y hy with e | e
      · exact h.reg.new j y e
      · exact h.keep.free e
    · cases hHy : H y with
      | some o =>
        have hne : H y ≠ none := by rw [hHy]; simp
        rcases hold i y hi with e | e
        · rcases hold j y hj with e2 | e2
          · exact h.reg.apart i j hij y e e2
          · exact hne e2
        · exact hne e
      | none =>
        have old : ∀ m, m ≠ 9 → m ≠ k → ¬ A' m y := fun m h1 h2 hm => by rw [ej m h1 h2] at hm; exact h.reg.live m y hm hHy
        have x9 : A' 9 y → ∃ x ∈ xs, ∃ a, x.2.1 = some a ∧ a.block = y := fun hy => by
          rcases hy with hy | hy
          · exact absurd hHy (h.reg.live 9 y hy)
          · exact hy
        have no : A' 9 y → A' k y → False := fun h1 h2 => by
          obtain ⟨x, hx, a, ha, rfl⟩ := x9 h1
          rw [ek] at h2
          exact (hnew x hx a ha).2.1 h2
        have hi' : i = 9 ∨ i = k := Classical.byContradiction fun z => old i (fun e => z (.inl e)) (fun e => z (.inr e)) hi
        have hj' : j = 9 ∨ j = k := Classical.byContradiction fun z => old j (fun e => z (.inl e)) (fun e => z (.inr e)) hj
        rcases hi' with rfl | rfl
        · rcases hj' with e | e
          · exact hij e.symm
          · rw [e] at hj; exact no hi hj
        · rcases hj' with e | e
          · rw [e] at hj; exact no hj hi
          · exact hij e.symm
  refine ⟨A', ga, xs, gc, hv, hx, ⟨reg', ?_, h.pos, ?_, fun i hi => ?_, wv, rv, yv, lost, g, kk.blk hb.blk (ns 2 (by omega) pb h.own), fun i hi => ?_, fun i hi => ?_, fun i hi => ?_⟩, ?_, fun x hx => ?_, fun x hx => ?_⟩
  · exact h.keep.then kk fun y hy => .inr (h.reg.new k y hy)
  · rw [ej 2 (by omega) (by omega)]; exact h.own
  · show CAt H' (cb i) (A' i) (upF W.c k c' i) now
    by_cases e : i = k
    · subst e
      rw [upF_eq, ek]
      exact ⟨p, now', due, hr, hn, hd, rfl⟩
    · rw [upF_ne e, ej i (by omega) e]
      exact (h.con i hi).keep kk (ns i e)
  · rw [ej (3 + i) (by omega) (by omega)]; exact (hb.w i hi).keep kk (ns _ (by omega))
  · rw [ej (5 + i) (by omega) (by omega)]; exact (hb.r i hi).keep kk (ns _ (by omega))
  · rw [ej (7 + i) (by omega) (by omega), e9]; exact (hb.y i hi).keep kk (ns _ (by omega)) (ns 9 hk9) hXold
  · exact ho.own.reads
  · have hd := ho.all x hx
    exact ⟨hd.seq, hd.ack, hd.rd, fun a ha => by rw [e9]; exact .inr ⟨x, hx, a, ha, rfl⟩⟩
  · rcases ho.own.2.2 with ⟨e, _⟩ | ⟨m, rest, e, h0, hB, _⟩
    · rw [e] at hx; cases hx
    · rw [e] at hx; cases hx
      refine ⟨hB.some, fun i hi => ?_⟩
      by_cases e9' : i = 9
      · subst e9'
        rcases hi with hi | ⟨z, hz, a, ha, hab⟩
        · exact h.reg.live 9 _ hi h0
        · obtain ⟨_, _, c, hc⟩ := hnew z hz a ha
          rw [show a.block = m from hab] at hc
          exact absurd (blk_ty hc hB) (by decide)
      · by_cases ek' : i = k
        · rw [ek', ek] at hi; exact ho.far m e hi
        · rw [ej i e9' ek'] at hi; exact h.reg.live i _ hi h0
end
end Go.Proofs.YtmiepjlnfclelaaGreat
end

section
set_option linter.all false
set_option maxRecDepth 100000
namespace Go.Proofs.YtmiepjlnfclelaaGreat
open Go.Sh Go.Pc Go.Conn
theorem sgsL_plain : ∀ xs, ∀ v ∈ sgsL xs, plainC v = true
  | [], v, h => by cases h
  | x :: xs, v, h => by
    rcases List.mem_append.1 h with h | h
    · exact sgL_plain _ _ _ _ v h
    · exact sgsL_plain xs v h
theorem sgsL_take : ∀ (xs : List (Sg × Option Addr × Nat)) (m : Nat), (sgsL xs).take (m * 9) = sgsL (xs.take m)
  | [], m => by simp [sgsL]
  | x :: xs, 0 => by simp [sgsL]
  | x :: xs, m + 1 => by
    show (sgL x.1 x.2.1 x.1.data.length x.2.2 ++ sgsL xs).take ((m + 1) * 9) = sgL x.1 x.2.1 x.1.data.length x.2.2 ++ sgsL (xs.take m)
    have e : (m + 1) * 9 = (sgL x.1 x.2.1 x.1.data.length x.2.2).length + m * 9 := by show _ = 9 + m * 9; omega
    rw [e, List.take_length_add_append, sgsL_take xs m]
theorem sgsL_drop : ∀ (xs : List (Sg × Option Addr × Nat)) (m : Nat), (sgsL xs).drop (m * 9) = sgsL (xs.drop m)
  | [], m => by simp [sgsL]
  | x :: xs, 0 => by simp
  | x :: xs, m + 1 => by
    show (sgL x.1 x.2.1 x.1.data.length x.2.2 ++ sgsL xs).drop ((m + 1) * 9) = sgsL (xs.drop m)
    have e : (m + 1) * 9 = (sgL x.1 x.2.1 x.1.data.length x.2.2).length + m * 9 := by show _ = 9 + m * 9; omega
    rw [e, List.drop_length_add_append, sgsL_drop xs m]
theorem emp_keep (H : Heap) : Keep (fun _ => True) emp H := ⟨fun y hy => absurd trivial hy, fun y hy => absurd rfl hy⟩
theorem way_take {H H0 : Heap} {a : Option Addr} {c : Nat} {xs : List (Sg × Option Addr × Nat)} (h : Sh.Own H0 H a xs.length c 9 T_seg_Segment (sgsL xs)) {m : Nat} (hm : m ≤ xs.length) : Reads H a (m * 9) (sgsL (xs.take m)) := by
  have := h.reads.take (m := m * 9) (Nat.mul_le_mul_right 9 hm)
  rwa [sgsL_take] at this
theorem way_drop {H H0 : Heap} {a : Option Addr} {c : Nat} {xs : List (Sg × Option Addr × Nat)} (h : Sh.Own H0 H a xs.length c 9 T_seg_Segment (sgsL xs)) {m : Nat} (hm : m ≤ xs.length) : Reads H (if c = m then a else Option.map (fun x => Addr.add x (m * 9)) a) ((xs.length - m) * 9) (sgsL (xs.drop m)) := by
  have hle := h.le
  have hlen : (sgsL (xs.drop m)).length = (xs.length - m) * 9 := by rw [sgsL_len, List.length_drop]
  by_cases e : c = m
  · rw [if_pos e]
    have h0 : xs.length - m = 0 := by omega
    rw [h0] at hlen ⊢
    refine ⟨hlen, ?_⟩
    cases a with
    | none => rfl
    | some x => exact fun h => absurd h (by omega)
  · rw [if_neg e]
    refine ⟨hlen, ?_⟩
    rcases h.2.2 with ⟨rfl, h0, _⟩ | ⟨q, rest, rfl, _, hb, _⟩
    · show (xs.length - m) * 9 = 0
      rw [h0]; simp
    · rw [Option.map_some, add_of_spot rfl]
      show 0 < (xs.length - m) * 9 → _
      refine fun hp => ⟨rfl, _, _, _, hb, fun t ht => ?_⟩
      simp only [List.getElem?_toArray]
      rw [List.getElem?_append_left (by rw [sgsL_len]; omega), ← sgsL_drop, List.getElem?_drop]
      congr 1; omega
/-- Segments behind a row of segments. -/
theorem app_segs {H0 H : Heap} {a xb : Option Addr} {cap xc k : Nat} {xs new : List (Sg × Option Addr × Nat)} {K : Value → Heap → Prop} {S : Nat → Prop} (ho : Sh.Own H0 H a xs.length cap 9 T_seg_Segment (sgsL xs)) (k0 : Keep S H0 H) (hk : new.length = k) (hnew : Reads H xb (k * 9) (sgsL new)) (hfit : xs.length + k ≤ 100000000)
    (h : ∀ a' cap' H', Sh.Own H0 H' a' (xs ++ new).length cap' 9 T_seg_Segment (sgsL (xs ++ new)) → (∀ b, a' = some ⟨b, 0, none⟩ → a = some ⟨b, 0, none⟩ ∨ H b = none) → Keep (fun b => a = some ⟨b, 0, none⟩) H H' → Keep S H0 H' → K (.slice a' (xs ++ new).length cap') H') :
    AppW Tryz.prog #[T_sl_seg_Segment, T_sl_seg_Segment] T_sl_seg_Segment [.slice a xs.length cap, .slice xb k xc] H K := by
  obtain ⟨it, h1, h2, h3⟩ := seg_info
  subst hk
  refine own_append2 (e := T_seg_Segment) (xe := T_seg_Segment) (z := [.int .i64 0, .int .i64 0, .int .u32 0, .int .u32 0, .int .i64 0, .int .i64 0, .int .i64 0, .int .i64 0, .slice none 0 0]) (by kernel_rfl) (by kernel_rfl) h1 h2 h3 (by decide) (by kernel_rfl) rfl ho k0 (new := sgsL new) hnew (sgsL_plain new) (by omega) fun a' cap' H' _ q1 q2 q3 q4 => ?_
  rw [← sgsL_app] at q1
  have e2 : xs.length + new.length = (xs ++ new).length := by simp
  rw [e2] at q1 ⊢
  exact h a' cap' H' q1 q2 q3 q4
section
variable {H0 H H' : Heap} {pb : Nat} {A : Nat → Nat → Prop} {cb : Nat → Nat} {W : PW} {now : Int} {k : Nat}
/-- The pair's own block is written. -/
theorem PAt.st {W' : PW} {now' : Int} {wv rv yv : Nat → Value} {lost : Bool} {g : Nat → Bool} (reg : Reg H0 H A) (keep : Keep Nil H0 H) (pos : 0 ≤ now') (own : A 2 pb) (con : ∀ k, k < 2 → CAt H (cb k) (A k) (W'.c k) now')
    (w : ∀ k, k < 2 → rowAt H (A (3 + k)) (wv k) (W'.w k)) (r : ∀ k, k < 2 → rowAt H (A (5 + k)) (rv k) (W'.r k)) (y : ∀ k, k < 2 → wayAt H (A (7 + k)) (A 9) (yv k) (W'.y k))
    (kp : Keep (fun x => x = pb) H H') (hb : Blk H' pb T_law15_pair ⟨pL cb wv rv yv now' lost g⟩) : PAt H0 H' pb A cb W' now' := by
  have ns : ∀ j, j ≠ 2 → ∀ y, A j y → ¬ y = pb := fun j hj => reg.ns (i := 2) (S := fun x => x = pb) (fun y e => .inl (e ▸ own)) hj
  refine ⟨reg.keep kp, keep.then kp fun y e => .inr (reg.new 2 y (e ▸ own)), pos, own, fun i hi => (con i hi).keep kp (ns i (by omega)), wv, rv, yv, lost, g, hb, fun i hi => (w i hi).keep kp (ns _ (by omega)), fun i hi => (r i hi).keep kp (ns _ (by omega)), fun i hi => (y i hi).keep kp (ns _ (by omega)) (ns 9 (by omega)) fun _ h => h⟩
/-- A way is another row now. -/
theorem PAt.wayT {H1 : Heap} {j : Nat} {S : Nat → Prop} {wv rv yv : Nat → Value} {lost : Bool} {g : Nat → Bool} {xs : List (Sg × Option Addr × Nat)} {a' : Option Addr} {cap' : Nat} (h : PAt H0 H pb A cb W now) (hb : PBlk H pb A cb W now wv rv yv lost g) (hj : j < 2) (ks : Keep S H H1) (hS : ∀ y, S y → A (7 + j) y ∨ H y = none)
    (ho : Sh.Own emp H1 a' xs.length cap' 9 T_seg_Segment (sgsL xs)) (ha : ∀ y, a' = some ⟨y, 0, none⟩ → A (7 + j) y ∨ H y = none) (hx : ∀ x ∈ xs, SegX H1 (A 9) x) {K : Heap → Prop}
    (hk : ∀ H' A', PAt H0 H' pb A' cb { W with y := upF W.y j (xs.map (·.1)) } now → (∀ i, i ≠ 7 + j → A' i = A i) → Keep (fun x => x = pb) H1 H' → K H') : StCell H1 ⟨pb, 6 + j * 1, none⟩ (.slice a' xs.length cap') K := by
  have ns : ∀ i, i ≠ 7 + j → ∀ y, A i y → ¬ S y := fun i hi => h.reg.ns hS hi
  have reg' : Reg H0 H1 (upA A (7 + j) fun y => a' = some ⟨y, 0, none⟩) := h.reg.step h.keep ks ha fun y hy => by obtain ⟨c, q⟩ := ho.live hy; exact q.some
  have ej : ∀ i, i ≠ 7 + j → upA A (7 + j) (fun y => a' = some ⟨y, 0, none⟩) i = A i := fun i hi => upA_ne hi
  have b1 := ks.blk hb.blk (ns 2 (by omega) pb h.own)
  refine stL b1 (by rw [pL_len]; omega) rfl fun H' b' k' => ?_
  rw [pL_sety hj] at b'
  refine hk H' _ (PAt.st (W' := { W with y := upF W.y j (xs.map (·.1)) }) reg' (h.keep.then ks fun y hy => (hS y hy).elim (fun e => .inr (h.reg.new _ y e)) fun e => .inr (h.keep.free e)) h.pos (by rw [ej 2 (by omega)]; exact h.own) (fun i hi => ?_) (fun i hi => ?_) (fun i hi => ?_) (fun i hi => ?_) k' b') ej k'
  · rw [ej i (by omega)]; exact (h.con i hi).keep ks (ns i (by omega))
  · rw [ej (3 + i) (by omega)]; exact (hb.w i hi).keep ks (ns _ (by omega))
  · rw [ej (5 + i) (by omega)]; exact (hb.r i hi).keep ks (ns _ (by omega))
  · show wayAt H1 _ _ (upF yv j _ i) (upF W.y j (xs.map (·.1)) i)
    rw [ej 9 (by omega)]
    by_cases e : i = j
    · subst e
      rw [upF_eq, upF_eq, upA_eq]
      exact ⟨a', cap', xs, rfl, rfl, ho, fun y hy => hy, hx⟩
    · rw [upF_ne e, upF_ne e, ej (7 + i) (by omega)]
      exact (hb.y i hi).keep ks (ns _ (by omega)) (ns 9 (by omega)) fun _ h => h
theorem put_spec (h : PAt H0 H pb A cb W now) (hk : k < 2) {a : Option Addr} {xs : List (Sg × Option Addr × Nat)} {cap : Nat} (hr : Reads H a (xs.length * 9) (sgsL xs)) (hx : ∀ x ∈ xs, SegX H (A 9) x) (hb : (W.y (1 - k)).length ≤ 10000000) (hl : xs.length ≤ 100000) :
    FnW Tryz.prog f_law15_pair_put ⟨[.pointer (some ⟨pb, 0, none⟩), .int .i64 k, .slice a xs.length cap]⟩ H fun v H' => v = .tuple ⟨[]⟩ ∧ ∃ A', PAt H0 H' pb A' cb { W with y := upF W.y (1 - k) (W.y (1 - k) ++ xs.map (·.1)) } now := by
  refine law15_pair_put_sh pb k a xs.length cap ?_
  unfold law15_pair_put_p
  obtain ⟨wv, rv, yv, lost, g, hB⟩ := h.ex
  have hj : 1 - k < 2 := by omega
  have hw : IntKind.wrap .i64 (1 - (k : Int)) = ((1 - k : Nat) : Int) := by rw [wrap_id (by omega) (by omega)]; omega
  rw [hw]
  obtain ⟨ya, yc, ys, hyv, hym, hyo, hyg, hyx⟩ := hB.y (1 - k) hj
  have hyl : ys.length = (W.y (1 - k)).length := by rw [← hym]; simp
  refine InB.intro (1 - k) rfl hj ⟨_, _, _, (cellL hB.blk _ (pL_y hj)).trans (by rw [hyv]), ?_⟩
  refine app_segs (new := xs) hyo (emp_keep H) rfl hr (by omega) fun a' cap' H1 o1 n1 k1 _ => ⟨_, _, _, rfl, InB.intro (1 - k) rfl hj ?_⟩
  have h9 : ∀ y, A 9 y → ¬ ya = some ⟨y, 0, none⟩ := fun y hy e => h.reg.apart 9 (7 + (1 - k)) (by omega) y hy (hyg y e)
  refine h.wayT hB hj k1 (fun y hy => .inl (hyg y hy)) o1 (fun y hy => (n1 y hy).imp (hyg y) id) (fun x hxm => ?_) fun H' A' h' _ k' => fun H2 hs => ⟨rfl, A', ?_⟩
  · rcases List.mem_append.1 hxm with hm | hm
    · exact (hyx x hm).keep k1 h9 fun _ h => h
    · exact (hx x hm).keep k1 h9 fun _ h => h
  · rw [List.map_append, hym] at h'
    exact h'.shut h.keep hs
end
end Go.Proofs.YtmiepjlnfclelaaGreat
end

section
set_option linter.all false
set_option maxRecDepth 100000
namespace Go.Proofs.YtmiepjlnfclelaaGreat
open Go.Sh Go.Pc Go.Conn
section
variable {H0 H H' : Heap} {pb : Nat} {A : Nat → Nat → Prop} {cb : Nat → Nat} {W : PW} {now : Int} {k : Nat}
/-- A row of bytes is another one now. -/
theorem PAt.wT {H1 : Heap} {j : Nat} {S : Nat → Prop} {wv rv yv : Nat → Value} {lost : Bool} {g : Nat → Bool} {l : List Int} {a' : Option Addr} {cap' : Nat} (h : PAt H0 H pb A cb W now) (hb : PBlk H pb A cb W now wv rv yv lost g) (hj : j < 2) (ks : Keep S H H1) (hS : ∀ y, S y → A (3 + j) y ∨ H y = none)
    (ho : Sh.Own emp H1 a' l.length cap' 1 T_uint8 (bv l)) (ha : ∀ y, a' = some ⟨y, 0, none⟩ → A (3 + j) y ∨ H y = none) {K : Heap → Prop}
    (hk : ∀ H' A', PAt H0 H' pb A' cb { W with w := upF W.w j l } now → A' 9 = A 9 → Keep (fun x => x = pb) H1 H' → K H') : StCell H1 ⟨pb, 2 + j * 1, none⟩ (.slice a' l.length cap') K := by
  have ns : ∀ i, i ≠ 3 + j → ∀ y, A i y → ¬ S y := fun i hi => h.reg.ns hS hi
  have reg' : Reg H0 H1 (upA A (3 + j) fun y => a' = some ⟨y, 0, none⟩) := h.reg.step h.keep ks ha fun y hy => by obtain ⟨c, q⟩ := ho.live hy; exact q.some
  have ej : ∀ i, i ≠ 3 + j → upA A (3 + j) (fun y => a' = some ⟨y, 0, none⟩) i = A i := fun i hi => upA_ne hi
  have b1 := ks.blk hb.blk (ns 2 (by omega) pb h.own)
  refine stL b1 (by rw [pL_len]; omega) rfl fun H' b' k' => ?_
  rw [pL_setw hj] at b'
  refine hk H' _ (PAt.st (W' := { W with w := upF W.w j l }) reg' (h.keep.then ks fun y hy => (hS y hy).elim (fun e => .inr (h.reg.new _ y e)) fun e => .inr (h.keep.free e)) h.pos (by rw [ej 2 (by omega)]; exact h.own) (fun i hi => ?_) (fun i hi => ?_) (fun i hi => ?_) (fun i hi => ?_) k' b') (ej 9 (by omega)) k'
  · rw [ej i (by omega)]; exact (h.con i hi).keep ks (ns i (by omega))
  · show rowAt H1 _ (upF wv j _ i) (upF W.w j l i)
    by_cases e : i = j
    · subst e
      rw [upF_eq, upF_eq, upA_eq]
      exact ⟨a', cap', rfl, ho, fun y hy => hy⟩
    · rw [upF_ne e, upF_ne e, ej (3 + i) (by omega)]
      exact (hb.w i hi).keep ks (ns _ (by omega))
  · rw [ej (5 + i) (by omega)]; exact (hb.r i hi).keep ks (ns _ (by omega))
  · rw [ej 9 (by omega), ej (7 + i) (by omega)]; exact (hb.y i hi).keep ks (ns _ (by omega)) (ns 9 (by omega)) fun _ h => h
/-- A row of bytes is another one now. -/
theorem PAt.rT {H1 : Heap} {j : Nat} {S : Nat → Prop} {wv rv yv : Nat → Value} {lost : Bool} {g : Nat → Bool} {l : List Int} {a' : Option Addr} {cap' : Nat} (h : PAt H0 H pb A cb W now) (hb : PBlk H pb A cb W now wv rv yv lost g) (hj : j < 2) (ks : Keep S H H1) (hS : ∀ y, S y → A (5 + j) y ∨ H y = none)
    (ho : Sh.Own emp H1 a' l.length cap' 1 T_uint8 (bv l)) (ha : ∀ y, a' = some ⟨y, 0, none⟩ → A (5 + j) y ∨ H y = none) {K : Heap → Prop}
    (hk : ∀ H' A', PAt H0 H' pb A' cb { W with r := upF W.r j l } now → A' 9 = A 9 → Keep (fun x => x = pb) H1 H' → K H') : StCell H1 ⟨pb, 4 + j * 1, none⟩ (.slice a' l.length cap') K := by
  have ns : ∀ i, i ≠ 5 + j → ∀ y, A i y → ¬ S y := fun i hi => h.reg.ns hS hi
  have reg' : Reg H0 H1 (upA A (5 + j) fun y => a' = some ⟨y, 0, none⟩) := h.reg.step h.keep ks ha fun y hy => by obtain ⟨c, q⟩ := ho.live hy; exact q.some
  have ej : ∀ i, i ≠ 5 + j → upA A (5 + j) (fun y => a' = some ⟨y, 0, none⟩) i = A i := fun i hi => upA_ne hi
  have b1 := ks.blk hb.blk (ns 2 (by omega) pb h.own)
  refine stL b1 (by rw [pL_len]; omega) rfl fun H' b' k' => ?_
  rw [pL_setr hj] at b'
  refine hk H' _ (PAt.st (W' := { W with r := upF W.r j l }) reg' (h.keep.then ks fun y hy => (hS y hy).elim (fun e => .inr (h.reg.new _ y e)) fun e => .inr (h.keep.free e)) h.pos (by rw [ej 2 (by omega)]; exact h.own) (fun i hi => ?_) (fun i hi => ?_) (fun i hi => ?_) (fun i hi => ?_) k' b') (ej 9 (by omega)) k'
  · rw [ej i (by omega)]; exact (h.con i hi).keep ks (ns i (by omega))
  · rw [ej (3 + i) (by omega)]; exact (hb.w i hi).keep ks (ns _ (by omega))
  · show rowAt H1 _ (upF rv j _ i) (upF W.r j l i)
    by_cases e : i = j
    · subst e
      rw [upF_eq, upF_eq, upA_eq]
      exact ⟨a', cap', rfl, ho, fun y hy => hy⟩
    · rw [upF_ne e, upF_ne e, ej (5 + i) (by omega)]
      exact (hb.r i hi).keep ks (ns _ (by omega))
  · rw [ej 9 (by omega), ej (7 + i) (by omega)]; exact (hb.y i hi).keep ks (ns _ (by omega)) (ns 9 (by omega)) fun _ h => h
end
end Go.Proofs.YtmiepjlnfclelaaGreat
end

section
set_option linter.all false
set_option maxRecDepth 100000
namespace Go.Proofs.YtmiepjlnfclelaaGreat
open Go.Sh Go.Pc Go.Conn
/-- What a turn leaves. -/
def Aft (H0 : Heap) (pb : Nat) (cb : Nat → Nat) (isn : Nat → Nat) (n m : Nat) (t : Int) (H' : Heap) : Prop := ∃ A' W' now', PAt H0 H' pb A' cb W' now' ∧ PI isn W' ∧ PB W' n m ∧ now' ≤ t
section
variable {H0 H H' : Heap} {pb : Nat} {A : Nat → Nat → Prop} {cb : Nat → Nat} {W : PW} {now t : Int} {k n m : Nat} {isn : Nat → Nat}
theorem Aft.mono {n' m' : Nat} {t' : Int} (h : Aft H0 pb cb isn n m t H) (hn : n ≤ n') (hm : m ≤ m') (ht : t ≤ t') : Aft H0 pb cb isn n' m' t' H := by
  obtain ⟨A', W', now', h1, h2, h3, h4⟩ := h
  exact ⟨A', W', now', h1, h2, ⟨fun k hk => Nat.le_trans (h3.w k hk) hn, fun k hk => Nat.le_trans (h3.y k hk) hm⟩, Int.le_trans h4 ht⟩
theorem Aft.shut {H1 H2 : Heap} (h : Aft H0 pb cb isn n m t H) (k1 : Keep Nil H0 H1) (hs : Shut H1 H H2) : Aft H0 pb cb isn n m t H2 := by
  obtain ⟨A', W', now', h1, h2, h3, h4⟩ := h
  exact ⟨A', W', now', h1.shut k1 hs, h2, h3, h4⟩
theorem CAt.mem {c : Nat} {F : Nat → Prop} {x : Cn} (h : CAt H c F x t) : F c := by
  obtain ⟨p, _, _, _, _, _, rfl⟩ := h.ex
  exact .inl rfl
/-- What a call says is put on its way. -/
theorem put_afterN {V : PW} {l : List Sg} {a : Option Addr} {xs : List (Sg × Option Addr × Nat)} {cap : Nat} (h : PAt H0 H pb A cb V now) (hk : k < 2) (hr : Reads H a (xs.length * 9) (sgsL xs)) (hx : ∀ x ∈ xs, SegX H (A 9) x) (hl : xs.map (·.1) = l) (hp : PI isn { V with y := upF V.y (1 - k) (V.y (1 - k) ++ l) })
    (hb : PB V n m) (hll : l.length ≤ 4098) (hm : m ≤ 1000000) : FnW Tryz.prog f_law15_pair_put ⟨[.pointer (some ⟨pb, 0, none⟩), .int .i64 k, .slice a xs.length cap]⟩ H fun v H' => v = .tuple ⟨[]⟩ ∧ ∃ A' W', PAt H0 H' pb A' cb W' now ∧ PI isn W' ∧ PB W' n (m + 4098) := by
  have hj : 1 - k < 2 := by omega
  have hxl : xs.length = l.length := by rw [← hl]; simp
  have := hb.y _ hj
  refine (put_spec h hk hr hx (by omega) (by omega)).mono ?_
  rintro _ H' ⟨rfl, A', h'⟩
  rw [hl] at h'
  refine ⟨rfl, A', _, h', hp, ⟨hb.w, fun i hi => ?_⟩⟩
  show (upF V.y (1 - k) (V.y (1 - k) ++ l) i).length ≤ _
  by_cases e : i = 1 - k
  · subst e
    rw [upF_eq, List.length_append]; omega
  · rw [upF_ne e]
    have := hb.y i hi
    omega
/-- What a call says is put on its way. -/
theorem put_after {V : PW} {l : List Sg} {a : Option Addr} {xs : List (Sg × Option Addr × Nat)} {cap : Nat} (h : PAt H0 H pb A cb V now) (hk : k < 2) (hr : Reads H a (xs.length * 9) (sgsL xs)) (hx : ∀ x ∈ xs, SegX H (A 9) x) (hl : xs.map (·.1) = l) (hp : PI isn { V with y := upF V.y (1 - k) (V.y (1 - k) ++ l) })
    (hb : PB V n m) (hll : l.length ≤ 4098) (hm : m ≤ 1000000) : FnW Tryz.prog f_law15_pair_put ⟨[.pointer (some ⟨pb, 0, none⟩), .int .i64 k, .slice a xs.length cap]⟩ H fun v H' => v = .tuple ⟨[]⟩ ∧ Aft H0 pb cb isn n (m + 4098) now H' := by
  refine (put_afterN h hk hr hx hl hp hb hll hm).mono ?_
  rintro _ H' ⟨rfl, A', W', h1, h2, h3⟩
  exact ⟨rfl, A', W', now, h1, h2, h3, Int.le_refl _⟩
theorem pb_c {f : Nat → Cn} (h : PB W n m) : PB { W with c := f } n m := ⟨h.w, h.y⟩
/-- How far numbers may go. -/
structure Lims (isn : Nat → Nat) (n m : Nat) : Prop where
  isn : ∀ k, k < 2 → isn k < 1000000
  n : n ≤ 100000
  m : m ≤ 1000000
theorem shut_op (h : PAt H0 H pb A cb W now) (hp : PI isn W) (hb : PB W n m) (hL : Lims isn n m) (hk : k < 2) : FnW Tryz.prog f_law15_pair_shut ⟨[.pointer (some ⟨pb, 0, none⟩), .int .i64 k]⟩ H fun v H' => v = .tuple ⟨[]⟩ ∧ Aft H0 pb cb isn n (m + 4098) now H' := by
  refine law15_pair_shut_sh pb k ?_
  unfold law15_pair_shut_p
  obtain ⟨wv, rv, yv, lost, g, hB⟩ := h.ex
  refine InB.intro k rfl hk ⟨_, cellL hB.blk _ (pL_cb hk), _, cellL hB.blk 8 rfl, (shut_spec (h.con k hk)).mono ?_⟩
  rintro _ H1 ⟨u, rfl, hl⟩
  obtain ⟨A', a, xs, cap, rfl, hxs, h1, hr, hx, hT⟩ := h.call hk hl
  have hw := hb.w k hk
  have hi := hL.isn k hk
  have hn := hL.n
  obtain ⟨d1, d2⟩ := Did.end_ (hp.side hk) (by unfold lim; omega)
  refine ⟨_, _, _, _, rfl, (put_after h1 hk hr hx hxs (hp.call0 hk d1 ((hp.hears hk).deaf d2)) (pb_c hb) (end_len _) hL.m).mono ?_⟩
  rintro _ H2 ⟨rfl, h2⟩
  exact ⟨rfl, fun H3 hs => ⟨rfl, h2.shut h.keep hs⟩⟩
theorem write_op (h : PAt H0 H pb A cb W now) (hp : PI isn W) (hb : PB W n m) (hL : Lims isn n m) (hk : k < 2) {a : Option Addr} {q c : Nat} {b : List Int} (hr : Reads H0 a q (bv b)) (hq : q ≤ 300) (hqc : q ≤ c) :
    FnW Tryz.prog f_law15_pair_write ⟨[.pointer (some ⟨pb, 0, none⟩), .int .i64 k, .slice a q c]⟩ H fun v H' => v = .tuple ⟨[]⟩ ∧ Aft H0 pb cb isn (n + 300) (m + 4098) now H' := by
  refine law15_pair_write_sh pb k a q c ?_
  unfold law15_pair_write_p
  have hbl : b.length = q := by have := hr.len; simpa using this
  obtain ⟨wv, rv, yv, lost, g, hB⟩ := h.ex
  refine InB.intro k rfl hk ⟨_, cellL hB.blk _ (pL_cb hk), _, cellL hB.blk 8 rfl, (write_spec (h.con k hk) (b := b) (fun H' k' => ?_) (by omega) hqc).mono ?_⟩
  · exact hr.keep (h.keep.then k' fun y e => .inr (h.reg.new k y (e ▸ (h.con k hk).mem))) fun _ _ h => h
  rintro _ H1 ⟨u, rfl, hl⟩
  obtain ⟨A', a1, xs, cap, rfl, hxs, h1, hr1, hx, hT⟩ := h.call hk hl
  have hw := hb.w k hk
  have hi := hL.isn k hk
  have hn := hL.n
  obtain ⟨d1, d2⟩ := Did.write (hp.side hk) (b := b) (by unfold lim; omega)
  have hp' := hp.call hk d1 ((hp.hears hk).deaf d2)
  rw [upF_self] at hp'
  have hwl := write_len (W.c k) b
  have hle : ((W.c k).write b).1 ≤ q := by
    unfold Cn.write
    split
    · exact Nat.zero_le _
    · show min b.length _ ≤ q
      omega
  have hbb : ∀ x : List Int, x.length ≤ 300 → PB { W with c := upF W.c k ((W.c k).write b).2.2.2, w := upF W.w k (W.w k ++ x) } (n + 300) m := fun x hx => ⟨fun i hi => by
    show (upF W.w k (W.w k ++ x) i).length ≤ n + 300
    by_cases e : i = k
    · subst e; rw [upF_eq, List.length_append]; omega
    · rw [upF_ne e]; have := hb.w i hi; omega, hb.y⟩
  refine ⟨_, _, _, _, _, rfl, IfB.intro (fun e0 => InB.intro k rfl hk ?_) fun e0 => ?_⟩
  · obtain ⟨wv1, rv1, yv1, lost1, g1, hB1⟩ := h1.ex
    obtain ⟨wa, wc, hwv, hwo, hwg⟩ := hB1.w k hk
    have hwo : Sh.Own emp H1 wa (W.w k).length wc 1 T_uint8 (bv (W.w k)) := hwo
    have hrb : Reads H1 a ((W.c k).write b).1 (bv (b.take ((W.c k).write b).1)) := by
      have := (hr.keep h1.keep fun _ _ h => h).take (m := ((W.c k).write b).1) hle
      have e : (bv b).take ((W.c k).write b).1 = bv (b.take ((W.c k).write b).1) := by simp [bv, List.map_take]
      rw [e] at this; exact this
    have hbt : (b.take ((W.c k).write b).1).length = ((W.c k).write b).1 := by simp; omega
    refine ⟨_, _, _, (cellL hB1.blk _ (pL_w hk)).trans (by rw [hwv]), InC.intro ((W.c k).write b).1 rfl (by omega) (app_bytes (S := fun _ => True) hwo (emp_keep H1) hrb (by show (W.w k).length + _ ≤ _; omega) fun a' cap' H2 o2 n2 k2 _ => ?_)⟩
    have el : (W.w k).length + ((W.c k).write b).1 = (W.w k ++ b.take ((W.c k).write b).1).length := by rw [List.length_append, hbt]
    have o2' : Sh.Own emp H2 a' (W.w k ++ b.take ((W.c k).write b).1).length cap' 1 T_uint8 (bv (W.w k ++ b.take ((W.c k).write b).1)) := by rw [← el]; exact o2
    refine ⟨_, _, _, rfl, InB.intro k rfl hk ?_⟩
    show StCell H2 ⟨pb, 2 + k * 1, none⟩ (.slice a' ((W.w k).length + ((W.c k).write b).1) cap') _
    rw [el]
    have n9 : ∀ y, A' 9 y → ¬ wa = some ⟨y, 0, none⟩ := fun y hy e => h1.reg.apart 9 (3 + k) (by omega) y hy (hwg y e)
    refine h1.wT hB1 hk k2 (fun y hy => .inl (hwg y hy)) o2' (fun y hy => (n2 y hy).imp (hwg y) id) fun H3 A3 h3 e9 k3 => ?_
    have n93 : ∀ y, A' 9 y → ¬ y = pb := fun y hy e => h1.reg.apart 9 2 (by omega) y hy (e ▸ h1.own)
    have nw : ∀ x, a1 = some x → ¬ wa = some ⟨x.block, 0, none⟩ := fun x hx e => (hT x hx).2 (3 + k) (hwg _ e)
    have np : ∀ x, a1 = some x → ¬ x.block = pb := fun x hx e => (hT x hx).2 2 (e ▸ h1.own)
    have hr3 : Reads H3 a1 (xs.length * 9) (sgsL xs) := (hr1.keep k2 nw).keep k3 np
    have hx3 : ∀ x ∈ xs, SegX H3 (A3 9) x := fun x hxm => ((hx x hxm).keep k2 n9 fun _ h => h).keep k3 n93 fun y hy => by rw [e9]; exact hy
    unfold law15_pair_write_j0
    refine (put_after h3 hk hr3 hx3 hxs hp' (hbb _ (by rw [hbt]; omega)) hwl hL.m).mono ?_
    rintro _ H4 ⟨rfl, h4⟩
    exact ⟨rfl, fun H5 hs => ⟨rfl, h4.shut h.keep hs⟩⟩
  · have hn0 : ((W.c k).write b).1 = 0 := by
      unfold Cn.write at e0 ⊢
      split
      · rfl
      · rename_i hst
        rw [if_neg hst] at e0
        cases e0
    rw [hn0, List.take_zero, List.append_nil, upF_self] at hp'
    unfold law15_pair_write_j0
    refine (put_after h1 hk hr1 hx hxs hp' (pb_c ⟨fun i hi => by have := hb.w i hi; omega, hb.y⟩) hwl hL.m).mono ?_
    rintro _ H4 ⟨rfl, h4⟩
    exact ⟨rfl, fun H5 hs => ⟨rfl, (h4.shut h.keep hs).mono (by omega) (by omega) (Int.le_refl _)⟩⟩
theorem get_op (h : PAt H0 H pb A cb W now) (hp : PI isn W) (hb : PB W n m) (hL : Lims isn n m) (hk : k < 2) (q : Nat) (hq : q ≤ 1000) :
    FnW Tryz.prog f_law15_pair_get ⟨[.pointer (some ⟨pb, 0, none⟩), .int .i64 k, .int .i64 q]⟩ H fun v H' => v = .tuple ⟨[]⟩ ∧ Aft H0 pb cb isn n (m + 4098) now H' := by
  refine law15_pair_get_sh pb k q ?_
  unfold law15_pair_get_p
  obtain ⟨wv, rv, yv, lost, g, hB⟩ := h.ex
  refine InB.intro k rfl hk ⟨_, cellL hB.blk _ (pL_cb hk), _, cellL hB.blk 8 rfl, (read_spec (h.con k hk) q (by omega)).mono ?_⟩
  rintro _ H1 ⟨ra, rm, rc, u, rfl, hrr, hrm, hl⟩
  obtain ⟨A', a1, xs, cap, rfl, hxs, h1, hr1, hx, hT⟩ := h.call hk hl
  have hw := hb.w (1 - k) (by omega)
  have hi := hL.isn k hk
  have hn := hL.n
  have hp' := hp.call hk (Did.read (hp.side hk) q) ((hp.hears hk).read q)
  rw [List.append_nil, upF_self] at hp'
  obtain ⟨wv1, rv1, yv1, lost1, g1, hB1⟩ := h1.ex
  obtain ⟨wa, wc, hwv, hwo, hwg⟩ := hB1.r k hk
  have hwo : Sh.Own emp H1 wa (W.r k).length wc 1 T_uint8 (bv (W.r k)) := hwo
  have hrl : (W.r k).length ≤ n := by have := (fits (hp.hears hk)).1; omega
  have hml : ((W.c k).read q).1.length = rm := by have := hrr.len; simpa using this
  refine ⟨_, _, _, _, _, _, _, rfl, InB.intro k rfl hk ⟨_, _, _, (cellL hB1.blk _ (pL_r hk)).trans (by rw [hwv]), app_bytes (S := fun _ => True) hwo (emp_keep H1) hrr (by show (W.r k).length + _ ≤ _; omega) fun a' cap' H2 o2 n2 k2 _ => ?_⟩⟩
  have el : (W.r k).length + rm = (W.r k ++ ((W.c k).read q).1).length := by rw [List.length_append, hml]
  have o2' : Sh.Own emp H2 a' (W.r k ++ ((W.c k).read q).1).length cap' 1 T_uint8 (bv (W.r k ++ ((W.c k).read q).1)) := by rw [← el]; exact o2
  refine ⟨_, _, _, rfl, InB.intro k rfl hk ?_⟩
  show StCell H2 ⟨pb, 4 + k * 1, none⟩ (.slice a' ((W.r k).length + rm) cap') _
  rw [el]
  have n9 : ∀ y, A' 9 y → ¬ wa = some ⟨y, 0, none⟩ := fun y hy e => h1.reg.apart 9 (5 + k) (by omega) y hy (hwg y e)
  refine h1.rT hB1 hk k2 (fun y hy => .inl (hwg y hy)) o2' (fun y hy => (n2 y hy).imp (hwg y) id) fun H3 A3 h3 e9 k3 => ?_
  have n93 : ∀ y, A' 9 y → ¬ y = pb := fun y hy e => h1.reg.apart 9 2 (by omega) y hy (e ▸ h1.own)
  have nw : ∀ x, a1 = some x → ¬ wa = some ⟨x.block, 0, none⟩ := fun x hx e => (hT x hx).2 (5 + k) (hwg _ e)
  have np : ∀ x, a1 = some x → ¬ x.block = pb := fun x hx e => (hT x hx).2 2 (e ▸ h1.own)
  have hr3 : Reads H3 a1 (xs.length * 9) (sgsL xs) := (hr1.keep k2 nw).keep k3 np
  have hx3 : ∀ x ∈ xs, SegX H3 (A3 9) x := fun x hxm => ((hx x hxm).keep k2 n9 fun _ h => h).keep k3 n93 fun y hy => by rw [e9]; exact hy
  refine (put_after h3 hk hr3 hx3 hxs hp' ⟨hb.w, hb.y⟩ (read_len _ _) hL.m).mono ?_
  rintro _ H4 ⟨rfl, h4⟩
  exact ⟨rfl, fun H5 hs => ⟨rfl, h4.shut h.keep hs⟩⟩
end
end Go.Proofs.YtmiepjlnfclelaaGreat
end

section
set_option linter.all false
set_option maxRecDepth 100000
namespace Go.Proofs.YtmiepjlnfclelaaGreat
open Go.Sh Go.Pc Go.Conn
/-- Segments that are to be put on their way. -/
def OutK (H0 : Heap) (pb : Nat) (cb : Nat → Nat) (isn : Nat → Nat) (n m k : Nat) (now : Int) (a : Option Addr) (xs : List (Sg × Option Addr × Nat)) (H : Heap) : Prop :=
  ∃ A V, PAt H0 H pb A cb V now ∧ Reads H a (xs.length * 9) (sgsL xs) ∧ (∀ x ∈ xs, SegX H (A 9) x) ∧ (∀ x, a = some x → H x.block ≠ none ∧ ∀ i, ¬ A i x.block) ∧
    PI isn { V with y := upF V.y (1 - k) (V.y (1 - k) ++ xs.map (·.1)) } ∧ PB V n m ∧ xs.length ≤ 4098
section
variable {H0 H H' : Heap} {pb : Nat} {A : Nat → Nat → Prop} {cb : Nat → Nat} {W : PW} {now t : Int} {k n m : Nat} {isn : Nat → Nat} {a : Option Addr} {xs : List (Sg × Option Addr × Nat)}
theorem OutK.put (h : OutK H0 pb cb isn n m k now a xs H) (hk : k < 2) (hm : m ≤ 1000000) (cap : Nat) : FnW Tryz.prog f_law15_pair_put ⟨[.pointer (some ⟨pb, 0, none⟩), .int .i64 k, .slice a xs.length cap]⟩ H fun v H' => v = .tuple ⟨[]⟩ ∧ ∃ A' W', PAt H0 H' pb A' cb W' now ∧ PI isn W' ∧ PB W' n (m + 4098) := by
  obtain ⟨A, V, h1, h2, h3, _, h5, h6, h7⟩ := h
  exact put_afterN h1 hk h2 h3 rfl h5 h6 (by simpa using h7) hm
/-- A flag of the pair is set. -/
theorem PAt.flag9 (h : PAt H0 H pb A cb W now) {b : Bool} {K : Heap → Prop} (hk : ∀ H', PAt H0 H' pb A cb W now → Keep (fun x => x = pb) H H' → K H') : StCell H ⟨pb, 9, none⟩ (.bool b) K := by
  obtain ⟨wv, rv, yv, lost, g, hB⟩ := h.ex
  exact stL hB.blk (by rw [pL_len]; omega) rfl fun H' b' k' => hk H' (PAt.st (lost := b) h.reg h.keep h.pos h.own h.con hB.w hB.r hB.y k' b') k'
theorem PAt.flagG (h : PAt H0 H pb A cb W now) (hj : k < 2) {b : Bool} {K : Heap → Prop} (hk : ∀ H', PAt H0 H' pb A cb W now → Keep (fun x => x = pb) H H' → K H') : StCell H ⟨pb, 10 + k * 1, none⟩ (.bool b) K := by
  obtain ⟨wv, rv, yv, lost, g, hB⟩ := h.ex
  refine stL hB.blk (by rw [pL_len]; omega) rfl fun H' b' k' => ?_
  rw [pL_setg hj] at b'
  exact hk H' (PAt.st h.reg h.keep h.pos h.own h.con hB.w hB.r hB.y k' b') k'
/-- The pair's block alone was turned. -/
theorem OutK.turn {A : Nat → Nat → Prop} {V : PW} (h2 : Reads H a (xs.length * 9) (sgsL xs)) (h3 : ∀ x ∈ xs, SegX H (A 9) x) (h4 : ∀ x, a = some x → H x.block ≠ none ∧ ∀ i, ¬ A i x.block)
    (h5 : PI isn { V with y := upF V.y (1 - k) (V.y (1 - k) ++ xs.map (·.1)) }) (h6 : PB V n m) (h7 : xs.length ≤ 4098) (h : PAt H0 H pb A cb V now) (h' : PAt H0 H' pb A cb V now) (kk : Keep (fun x => x = pb) H H') : OutK H0 pb cb isn n m k now a xs H' :=
  ⟨A, V, h', h2.keep kk fun x hx e => (h4 x hx).2 2 (e ▸ h.own), fun x hx => (h3 x hx).keep kk (fun y hy e => h.reg.apart 9 2 (by omega) y hy (e ▸ h.own)) fun _ h => h, fun x hx => ⟨kk.live _ (h4 x hx).1, (h4 x hx).2⟩, h5, h6, h7⟩
theorem OutK.flag9 (h : OutK H0 pb cb isn n m k now a xs H) {b : Bool} {K : Heap → Prop} (hk : ∀ H', OutK H0 pb cb isn n m k now a xs H' → K H') : StCell H ⟨pb, 9, none⟩ (.bool b) K := by
  obtain ⟨A, V, h1, h2, h3, h4, h5, h6, h7⟩ := h
  exact h1.flag9 fun H' h' kk => hk H' (OutK.turn h2 h3 h4 h5 h6 h7 h1 h' kk)
theorem OutK.flagG (h : OutK H0 pb cb isn n m k now a xs H) {j : Nat} (hj : j < 2) {b : Bool} {K : Heap → Prop} (hk : ∀ H', OutK H0 pb cb isn n m k now a xs H' → K H') : StCell H ⟨pb, 10 + j * 1, none⟩ (.bool b) K := by
  obtain ⟨A, V, h1, h2, h3, h4, h5, h6, h7⟩ := h
  exact h1.flagG hj fun H' h' kk => hk H' (OutK.turn h2 h3 h4 h5 h6 h7 h1 h' kk)
theorem OutK.lost (h : OutK H0 pb cb isn n m k now a xs H) : ∃ b : Bool, H.cell ⟨pb, 9, none⟩ = some (.bool b) := by
  obtain ⟨A, V, h1, _⟩ := h
  obtain ⟨wv, rv, yv, lost, g, hB⟩ := h1.ex
  exact ⟨lost, cellL hB.blk 9 rfl⟩
theorem OutK.cbs (h : OutK H0 pb cb isn n m k now a xs H) {j : Nat} (hj : j < 2) : H.cell ⟨pb, 0 + j * 1, none⟩ = some (.pointer (some ⟨cb j, 0, none⟩)) ∧ FnW Tryz.prog f_conn_Conn_State ⟨[.pointer (some ⟨cb j, 0, none⟩)]⟩ H fun v H' => (∃ z, v = .int .i64 z) ∧ H' = H := by
  obtain ⟨A, V, h1, _⟩ := h
  obtain ⟨wv, rv, yv, lost, g, hB⟩ := h1.ex
  obtain ⟨p, now', due, hr, _⟩ := (h1.con j hj).ex
  refine ⟨cellL hB.blk _ (pL_cb hj), (State_spec hr).mono ?_⟩
  rintro v _ ⟨rfl, e⟩
  exact ⟨⟨_, rfl⟩, e⟩
theorem tick_op (h : PAt H0 H pb A cb W now) (hp : PI isn W) (hb : PB W n m) (hL : Lims isn n (m + 5000)) (hnow : now ≤ 1000000) (q : Nat) (hq : q ≤ 100) :
    FnW Tryz.prog f_law15_pair_tick ⟨[.pointer (some ⟨pb, 0, none⟩), .int .i64 q]⟩ H fun v H' => v = .tuple ⟨[]⟩ ∧ Aft H0 pb cb isn n (m + 8196) (now + q) H' := by
  refine law15_pair_tick_sh pb q ?_
  unfold law15_pair_tick_p
  obtain ⟨wv, rv, yv, lost, g, hB⟩ := h.ex
  have hpos := h.pos
  have hw : IntKind.wrap .i64 (now + (q : Int)) = now + q := wrap_id (by omega) (by omega)
  refine ⟨_, cellL hB.blk 8 rfl, ?_⟩
  rw [hw]
  refine stL hB.blk (by rw [pL_len]; omega) rfl fun H1 b1 k1 => ?_
  have h1 : PAt H0 H1 pb A cb W (now + q) := PAt.st (lost := lost) (g := g) h.reg h.keep (by omega) h.own (fun i hi => (h.con i hi).later (by omega)) hB.w hB.r hB.y k1 b1
  refine loopI (fun f s H' => ∃ (j : Nat) (A' : Nat → Nat → Prop) (W' : PW), s = ((j : Int), ()) ∧ j ≤ 2 ∧ f = 2 - j ∧ PAt H0 H' pb A' cb W' (now + q) ∧ PI isn W' ∧ PB W' n (m + 4098 * j)) 2 ⟨0, A, W, rfl, by omega, rfl, h1, hp, hb⟩ ?_
  rintro f s H2 ⟨j, A2, W2, rfl, hj, rfl, h2, hp2, hb2⟩ gg
  unfold law15_pair_tick_l2
  dsimp only
  refine IfB.intro (fun hlt => ?_) fun hge => fun H3 hs => ⟨rfl, Aft.shut ?_ h.keep hs⟩
  · have hlt : j < 2 := by have := of_decide_eq_true hlt; omega
    obtain ⟨wv2, rv2, yv2, lost2, g2, hB2⟩ := h2.ex
    refine InB.intro j rfl hlt ⟨_, cellL hB2.blk _ (pL_cb hlt), _, cellL hB2.blk 8 rfl, (tick_spec (h2.con j hlt)).mono ?_⟩
    rintro _ H3 ⟨u, ans, rfl, htk, hl⟩
    obtain ⟨A3, a3, xs3, cap3, rfl, hxs3, h3, hr3, hx3, hT3⟩ := h2.call hlt hl
    have hwj := hb2.w j hlt
    have hi := hL.isn j hlt
    have hn := hL.n
    have hm := hL.m
    obtain ⟨d1, d2⟩ := Did.ticks (hp2.side hlt) (by unfold lim; omega) htk
    have hp3 := hp2.call0 hlt d1 ((hp2.hears hlt).deaf d2)
    rw [← hxs3] at hp3
    have hlen := ticks_len htk
    rw [← hxs3, List.length_map] at hlen
    have ho : OutK H0 pb cb isn n (m + 4098 * j) j (now + q) a3 xs3 H3 := ⟨A3, _, h3, hr3, hx3, hT3, hp3, pb_c hb2, hlen⟩
    have fin : ∀ H4, OutK H0 pb cb isn n (m + 4098 * j) j (now + q) a3 xs3 H4 → law15_pair_tick_j1 pb j a3 xs3.length cap3 (fun x' H' => ∃ k', k' < 2 - j ∧ ∃ (j : Nat) (A' : Nat → Nat → Prop) (W' : PW), x' = ((j : Int), ()) ∧ j ≤ 2 ∧ k' = 2 - j ∧ PAt H0 H' pb A' cb W' (now + q) ∧ PI isn W' ∧ PB W' n (m + 4098 * j)) H4 fun v H1 => ∀ H2, Shut H H1 H2 → v = .tuple ⟨[]⟩ ∧ Aft H0 pb cb isn n (m + 8196) (now + q) H2 := by
      intro H4 ho4
      unfold law15_pair_tick_j1
      refine (ho4.put hlt (by omega) cap3).mono ?_
      rintro _ H5 ⟨rfl, A5, W5, h5, hp5, hb5⟩
      refine ⟨rfl, ?_⟩
      unfold law15_pair_tick_j2
      have hw1 : IntKind.wrap .i64 ((j : Int) + 1) = ((j + 1 : Nat) : Int) := by rw [wrap_id (by omega) (by omega)]; omega
      rw [hw1]
      exact ⟨2 - (j + 1), by omega, j + 1, A5, W5, rfl, by omega, rfl, h5, hp5, ⟨hb5.w, fun i hi => by have := hb5.y i hi; omega⟩⟩
    have j0 : ∀ (x : Bool) H4, OutK H0 pb cb isn n (m + 4098 * j) j (now + q) a3 xs3 H4 → law15_pair_tick_j0 pb j a3 xs3.length cap3 ans.2.1 (fun x' H' => ∃ k', k' < 2 - j ∧ ∃ (j : Nat) (A' : Nat → Nat → Prop) (W' : PW), x' = ((j : Int), ()) ∧ j ≤ 2 ∧ k' = 2 - j ∧ PAt H0 H' pb A' cb W' (now + q) ∧ PI isn W' ∧ PB W' n (m + 4098 * j)) x H4 fun v H1 => ∀ H2, Shut H H1 H2 → v = .tuple ⟨[]⟩ ∧ Aft H0 pb cb isn n (m + 8196) (now + q) H2 := by
      intro x H4 ho4
      unfold law15_pair_tick_j0
      refine IfB.intro (fun _ => InB.intro j rfl hlt (ho4.flagG hlt fun H5 ho5 => fin H5 ho5)) fun _ => ?_
      obtain ⟨b, hcell⟩ := ho4.lost
      exact ⟨b, hcell, IfB.intro (fun _ => ho4.flag9 fun H5 ho5 => fin H5 ho5) fun _ => ho4.flag9 fun H5 ho5 => fin H5 ho5⟩
    have hw2 : IntKind.wrap .i64 (1 - (j : Int)) = ((1 - j : Nat) : Int) := by rw [wrap_id (by omega) (by omega)]; omega
    refine ⟨_, _, _, _, rfl, IfB.intro (fun _ => ?_) fun _ => j0 _ H3 ho⟩
    rw [hw2]
    obtain ⟨c1, c2⟩ := ho.cbs (show 1 - j < 2 by omega)
    refine InB.intro (1 - j) rfl (by omega) ⟨_, c1, c2.mono ?_⟩
    rintro _ _ ⟨⟨z, rfl⟩, e⟩
    rw [e]
    exact ⟨_, rfl, j0 _ H3 ho⟩
  · have hge : j = 2 := by have := of_decide_eq_false hge; omega
    subst hge
    exact ⟨A2, W2, _, h2, hp2, hb2, Int.le_refl _⟩
end
end Go.Proofs.YtmiepjlnfclelaaGreat
end

section
set_option linter.all false
set_option maxRecDepth 100000
namespace Go.Proofs.YtmiepjlnfclelaaGreat
open Go.Sh Go.Pc Go.Conn
section
variable {H0 H H' : Heap} {pb : Nat} {A : Nat → Nat → Prop} {cb : Nat → Nat} {W : PW} {now t : Int} {k n m : Nat} {isn : Nat → Nat} {a : Option Addr} {xs : List (Sg × Option Addr × Nat)}
/-- Segments in a new row. -/
theorem app_segs0 {H2 H : Heap} {z k xc : Nat} {xb : Option Addr} {new : List (Sg × Option Addr × Nat)} {K : Value → Heap → Prop} (hz : H2 z = none) (hb : Blk H z T_seg_Segment ⟨[]⟩) (k0 : Keep Nil H2 H) (hk : new.length = k) (hnew : Reads H xb (k * 9) (sgsL new)) (hfit : k ≤ 100000000)
    (h : ∀ a' cap' H', Sh.Own H2 H' a' new.length cap' 9 T_seg_Segment (sgsL new) → Keep Nil H2 H' → K (.slice a' new.length cap') H') :
    AppW Tryz.prog #[T_sl_seg_Segment, T_sl_seg_Segment] T_sl_seg_Segment [.slice (some ⟨z, 0, none⟩) 0 0, .slice xb k xc] H K := by
  have oz : Sh.Own H2 H (some ⟨z, 0, none⟩) ([] : List (Sg × Option Addr × Nat)).length 0 9 T_seg_Segment (sgsL []) := Sh.Own.start hz hb
  exact app_segs (xs := []) (new := new) oz k0 hk hnew (by rw [List.length_nil]; omega) fun a' cap' H' q1 _ _ q4 => h a' cap' H' q1 q4
/-- A segment is taken by one of the two. -/
theorem take_op (h : PAt H0 H pb A cb W now) (hp : PI isn W) (hb : PB W n m) (hL : Lims isn n m) (hk : k < 2) {s : Sg} {q cp : Nat} (hs : SgArg H (A k) s a q) (hc : Go.Conn.Comes (isn (1 - k)) (W.w (1 - k)) (W.c (1 - k)).shut (W.c k) s) :
    FnW Tryz.prog f_conn_Conn_Take ⟨[.pointer (some ⟨cb k, 0, none⟩), .int .i64 now, .agg ⟨sgL s a q cp⟩]⟩ H fun v H' => ∃ a1 xs cap e, v = .tuple ⟨[.slice a1 xs.length cap, .int .i64 e]⟩ ∧ OutK H0 pb cb isn n m k now a1 xs H' := by
  refine (Take_spec (h.con k hk) h.pos hs).mono ?_
  rintro _ H1 ⟨u, rfl, hl⟩
  obtain ⟨A1, a1, xs, cap, rfl, hxs, h1, hr1, hx1, hT1⟩ := h.call hk hl
  have hw := hb.w k hk
  have hw2 := hb.w (1 - k) (by omega)
  have hi := hL.isn k hk
  have hi2 := hL.isn (1 - k) (by omega)
  have hn := hL.n
  have d1 := (Good.Take (hp.side hk) (by unfold lim; omega) s).did
  have d2 := Hears.Take (hp.hears hk) (by unfold lim; omega) hc
  have hp1 := hp.call0 hk d1 d2
  rw [← hxs] at hp1
  have hlen := Take_len (W.c k) s
  rw [← hxs, List.length_map] at hlen
  exact ⟨a1, xs, cap, _, rfl, A1, _, h1, hr1, hx1, hT1, hp1, pb_c hb, hlen⟩
theorem come_op (h : PAt H0 H pb A cb W now) (hp : PI isn W) (hb : PB W n m) (hL : Lims isn n m) (hk : k < 2) (at_ : Int) (tw : Bool) :
    FnW Tryz.prog f_law15_pair_come ⟨[.pointer (some ⟨pb, 0, none⟩), .int .i64 k, .int .i64 at_, .bool tw]⟩ H fun v H' => v = .tuple ⟨[]⟩ ∧ Aft H0 pb cb isn n (m + 4098) now H' := by
  refine law15_pair_come_sh pb k at_ tw ?_
  unfold law15_pair_come_p
  obtain ⟨wv, rv, yv, lost, g, hB⟩ := h.ex
  obtain ⟨ya, yc, ys, hyv, hym, hyo, hyg, hyx⟩ := hB.y k hk
  have hyl : ys.length = (W.y k).length := by rw [← hym]; simp
  have hyb := hb.y k hk
  have hm := hL.m
  have hcell : ∀ {Hx : Heap}, Keep Nil H Hx → Hx.cell ⟨pb, 6 + k * 1, none⟩ = some (.slice ya ys.length yc) := fun kx => (cellL (kx.blk hB.blk id) _ (pL_y hk)).trans (by rw [hyv])
  refine InB.intro k rfl hk ⟨_, _, _, hcell (Keep.refl _ _), IfB.intro (fun _ => fun H2 hs => ⟨rfl, A, W, now, h.shut h.keep hs, hp, ⟨hb.w, fun i hi => by have := hb.y i hi; omega⟩, Int.le_refl _⟩) fun hne => ?_⟩
  have hpos : 0 < ys.length := by
    cases e : ys.length with
    | zero => rw [e] at hne; cases hne
    | succ z => omega
  refine InB.intro k rfl hk ⟨_, _, _, hcell (Keep.refl _ _), (among_spec at_ hpos (by omega)).mono ?_⟩
  rintro _ _ ⟨rfl, e⟩
  rw [e]
  clear e
  have hi := amongV_lt at_ hpos
  generalize amongV at_ ys.length = i at hi
  refine ⟨_, rfl, InB.intro k rfl hk ⟨_, _, _, hcell (Keep.refl _ _), ?_⟩⟩
  obtain ⟨yb, hya⟩ : ∃ yb, ya = some ⟨yb, 0, none⟩ := by
    rcases hyo.2.2 with ⟨_, e0, _⟩ | ⟨q, _, e0, _⟩
    · omega
    · exact ⟨q, e0⟩
  obtain ⟨x, hxi⟩ : ∃ x, ys[i]? = some x := ⟨_, List.getElem?_eq_getElem hi⟩
  have hxm : x ∈ ys := List.mem_of_getElem? hxi
  have hseg := hyx x hxm
  -- the segment's cells
  have hxc : ∀ t, t < 9 → H.cell ⟨yb, i * 9 + t, none⟩ = (sgL x.1 x.2.1 x.1.data.length x.2.2)[t]? := fun t ht => by
    have hrd := hyo.reads
    rw [hya] at hrd
    have := hrd.cell (j := i * 9 + t) (by omega)
    simp only [Nat.zero_add] at this
    rw [this]
    have e1 : (sgsL ys)[i * 9 + t]? = ((sgsL ys).drop (i * 9))[t]? := by rw [List.getElem?_drop]
    rw [e1, sgsL_drop]
    have e2 : ys.drop i = x :: ys.drop (i + 1) := by
      rw [List.drop_eq_getElem_cons hi]
      congr 1
      rw [List.getElem?_eq_getElem hi] at hxi
      exact Option.some.inj hxi
    rw [e2]
    show (sgL x.1 x.2.1 x.1.data.length x.2.2 ++ sgsL (ys.drop (i + 1)))[t]? = _
    rw [List.getElem?_append_left (by show t < 9; omega)]
  rw [hya]
  refine NilP.intro _ rfl (InB.intro i rfl hi ?_)
  rw [elemAt_none, Nat.zero_add]
  refine ⟨_, hxc 0 (by omega), _, hxc 1 (by omega), _, hxc 2 (by omega), _, hxc 3 (by omega), _, hxc 4 (by omega), _, hxc 5 (by omega), _, hxc 6 (by omega), _, hxc 7 (by omega), _, _, _, hxc 8 (by omega), newB fun q H1 hq b1 k1 => ?_⟩
  refine st9 (s := x.1) b1 fun H2 b2 k2 => ?_
  have k02 : Keep Nil H H2 := k1.then k2 fun y hy => .inr (hy ▸ hq)
  have h2 := h.nil k02
  have hgen : Gen (isn (1 - k)) (W.w (1 - k)) (W.c (1 - k)).shut x.1 := hp.gen hk x.1 (by rw [← hym]; exact List.mem_map_of_mem hxm)
  have hqA : ∀ j, ¬ A j q := fun j hj => h.reg.live j q hj hq
  -- what comes of it
  have j0 : ∀ (H3 : Heap) (A3 : Nat → Nat → Prop) (W3 : PW), PAt H0 H3 pb A3 cb W3 now → PI isn W3 → PB W3 n m → W3.w = W.w → W3.c = W.c → Blk H3 q T_seg_Segment ⟨sgL x.1 x.2.1 x.1.data.length x.2.2⟩ → SegX H3 (A3 9) x → law15_pair_come_j0 pb k q H3 fun v H1 => ∀ H2, Shut H H1 H2 → v = .tuple ⟨[]⟩ ∧ Aft H0 pb cb isn n (m + 4098) now H2 := by
    intro H3 A3 W3 h3 hp3 hb3 ew ec b3 hx3
    obtain ⟨wv3, rv3, yv3, lost3, g3, hB3⟩ := h3.ex
    unfold law15_pair_come_j0
    have harg : SgArg H3 (A3 k) x.1 x.2.1 x.1.data.length := ⟨hx3.seq, hx3.ack, hx3.rd, fun a ha => ⟨h3.reg.live 9 _ (hx3.at_ a ha), h3.reg.apart 9 k (by omega) _ (hx3.at_ a ha)⟩⟩
    refine InB.intro k rfl hk ⟨_, cellL hB3.blk _ (pL_cb hk), _, cellL hB3.blk 8 rfl, ld9 b3 ((take_op h3 hp3 hb3 hL hk harg (.inl (by rw [ew, ec]; exact hgen))).mono ?_)⟩
    rintro _ H4 ⟨a4, xs4, cap4, e4, rfl, ho⟩
    obtain ⟨lb, hlb⟩ := ho.lost
    have j1 : ∀ H5, OutK H0 pb cb isn n m k now a4 xs4 H5 → law15_pair_come_j1 pb k a4 xs4.length cap4 H5 fun v H1 => ∀ H2, Shut H H1 H2 → v = .tuple ⟨[]⟩ ∧ Aft H0 pb cb isn n (m + 4098) now H2 := by
      intro H5 ho5
      unfold law15_pair_come_j1
      refine (ho5.put hk hm cap4).mono ?_
      rintro _ H6 ⟨rfl, A6, W6, h6, hp6, hb6⟩
      exact ⟨rfl, fun H7 hsh => ⟨rfl, A6, W6, now, h6.shut h.keep hsh, hp6, hb6, Int.le_refl _⟩⟩
    exact ⟨_, _, _, _, rfl, lb, hlb, IfB.intro (fun _ => ho.flag9 fun H5 ho5 => j1 H5 ho5) fun _ => ho.flag9 fun H5 ho5 => j1 H5 ho5⟩
  have hseg2 : SegX H2 (A 9) x := hseg.keep k02 (fun _ _ h => h) fun _ h => h
  refine IfB.intro (fun _ => ?_) fun _ => j0 H2 A W h2 hp hb rfl rfl b2 hseg2
  have hB2 := k02.blk hB.blk id
  have hpbs : ∃ o, H2 pb = some o := ⟨_, hB2⟩
  have hc2 := hcell k02
  have hle := hyo.le
  refine ⟨[pb], fun y hy => by rw [List.mem_singleton.1 hy]; exact hpbs, InB.intro k rfl hk ⟨_, _, _, hc2, InC.intro i rfl (by omega) (InB.intro k rfl hk ⟨List.mem_singleton.2 rfl, _, _, _, hc2, InC.intro (i + 1) ?_ (by omega) ?_⟩)⟩⟩
  · rw [wrap_id (by omega) (by omega)]; omega
  refine newB fun z H3 hz b3 k3 => ?_
  have hyo2 : Sh.Own emp H2 ya ys.length yc 9 T_seg_Segment (sgsL ys) := hyo.keep k02 fun _ _ h => h
  have hyo3 := hyo2.keep k3 fun _ _ h => h
  have hmi : (ys.take i).length = i := by rw [List.length_take]; omega
  have hi8 : i ≤ 100000000 := by omega
  refine app_segs0 (new := ys.take i) hz b3 k3 hmi (way_take hyo3 (Nat.le_of_lt hi)) hi8 fun a4 cap4 H4 o4 kk4 => ⟨_, _, _, rfl, fun y hy => ?_, ?_⟩
  · rw [List.mem_singleton.1 hy]
    exact ⟨hpbs, kk4.same pb id hB2.some⟩
  have hyo4 := hyo2.keep kk4 fun _ _ h => h
  refine app_segs (new := ys.drop (i + 1)) o4 kk4 (by rw [List.length_drop]) (way_drop hyo4 hi) (by rw [hmi]; omega) fun a5 cap5 H5 o5 n5 k5 kk5 => ⟨_, _, _, rfl, fun y hy => ?_, InB.intro k rfl hk ?_⟩
  · rw [List.mem_singleton.1 hy]
    exact ⟨hpbs, kk5.same pb id hB2.some⟩
  have o5e : Sh.Own emp H5 a5 (ys.take i ++ ys.drop (i + 1)).length cap5 9 T_seg_Segment (sgsL (ys.take i ++ ys.drop (i + 1))) := o5.mono (emp_keep H2)
  have hsub : ∀ z, z ∈ ys.take i ++ ys.drop (i + 1) → z ∈ ys := fun z hz => by
    rcases List.mem_append.1 hz with hz | hz
    · exact List.mem_of_mem_take hz
    · exact List.mem_of_mem_drop hz
  have hB2' : PBlk H2 pb A cb W now wv rv yv lost g := ⟨hB2, fun i hi => (hB.w i hi).keep k02 fun _ _ h => h, fun i hi => (hB.r i hi).keep k02 fun _ _ h => h, fun i hi => (hB.y i hi).keep k02 (fun _ _ h => h) (fun _ _ h => h) fun _ h => h⟩
  refine h2.wayT hB2' hk kk5 (fun y hy => hy.elim) o5e (fun y hy => .inr (o5.free hy)) (fun z hz => (hyx z (hsub z hz)).keep (k02.trans kk5) (fun _ _ h => h) fun _ h => h) fun H6 A6 h6 e6 k6 => ?_
  have hpi : PI isn { W with y := upF W.y k ((ys.take i ++ ys.drop (i + 1)).map (·.1)) } := hp.less hk fun s hs => by
    obtain ⟨z, hz, rfl⟩ := List.mem_map.1 hs
    rw [← hym]
    exact List.mem_map_of_mem (hsub z hz)
  have hpb6 : PB { W with y := upF W.y k ((ys.take i ++ ys.drop (i + 1)).map (·.1)) } n m := ⟨hb.w, fun j hj => by
    show (upF W.y k _ j).length ≤ m
    by_cases e : j = k
    · subst e
      rw [upF_eq]; simp; omega
    · rw [upF_ne e]; exact hb.y j hj⟩
  have hqp : ¬ q = pb := fun e => h.reg.live 2 pb h.own (e ▸ hq)
  refine j0 H6 A6 _ h6 hpi hpb6 rfl rfl (k6.blk (kk5.blk b2 id) hqp) ?_
  refine (hseg2.keep kk5 (fun _ _ h => h) fun _ h => h).keep k6 (fun y hy e => h.reg.apart 9 2 (by omega) y hy (e ▸ h.own)) fun y hy => ?_
  rw [e6 9 (by omega)]; exact hy
end
end Go.Proofs.YtmiepjlnfclelaaGreat
end

section
set_option linter.all false
set_option maxRecDepth 100000
namespace Go.Proofs.YtmiepjlnfclelaaGreat
open Go.Sh Go.Pc Go.Conn
section
variable {H0 H H' : Heap} {pb : Nat} {A : Nat → Nat → Prop} {cb : Nat → Nat} {W : PW} {now t : Int} {k n m : Nat} {isn : Nat → Nat} {a : Option Addr} {xs : List (Sg × Option Addr × Nat)}
theorem span_few {s : Sg} (h : s.data.length ≤ 100) : s.span ≤ 200 := by
  unfold Sg.span
  split <;> split <;> omega
/-- Something comes in that nobody sent, far outside the window. -/
theorem made_op (h : PAt H0 H pb A cb W now) (hp : PI isn W) (hb : PB W n m) (hL : Lims isn n m) (hk : k < 2) (h1 : (W.c k).st ≠ 1) {s : Sg} {q cp r : Nat} (hs : SgArg H (A k) s a q) (hr : r < 1000) (hq : s.seq = 2147483648 + r) (hd : s.data.length ≤ 100) :
    FnW Tryz.prog f_conn_Conn_Take ⟨[.pointer (some ⟨cb k, 0, none⟩), .int .i64 now, .agg ⟨sgL s a q cp⟩]⟩ H fun v H' => ∃ a1 xs cap e, v = .tuple ⟨[.slice a1 xs.length cap, .int .i64 e]⟩ ∧ OutK H0 pb cb isn n m k now a1 xs H' := by
  refine take_op h hp hb hL hk hs (.inr ⟨h1, ?_⟩)
  have hw := hb.w (1 - k) (by omega)
  have hi := hL.isn (1 - k) (by omega)
  have hn := hL.n
  have hwt := wants_le (hp.hears hk) (by unfold lim; omega)
  rw [hq]
  exact far (by omega) (jwin_le _) hr (span_few hd)
abbrev turnL (do_ q : Int) (other tw : Bool) (ba : Option Addr) (bn bc : Nat) (s : Sg) (da : Option Addr) (dn dc : Nat) : List Value :=
  [.int .i64 do_, .int .i64 q, .bool other, .bool tw, .slice ba bn bc, .int .i64 s.src, .int .i64 s.dst, .int .u32 s.seq, .int .u32 s.ack, .int .i64 s.flags, .int .i64 s.win, .int .i64 s.urg, .int .i64 s.big, .slice da dn dc]
theorem play_op (h : PAt H0 H pb A cb W now) (hp : PI isn W) (hb : PB W n m) (hL : Lims isn n (m + 5000)) (hnow : now ≤ 1000000) (do_ q : Int) (other tw : Bool) {ba da : Option Addr} {bn bc dn dc : Nat} {s : Sg} {b : List Int}
    (hB : Reads H0 ba bn (bv b)) (hbc : bn ≤ bc) (hD : Reads H0 da dn (bv s.data)) (hdc : dn ≤ dc) (hq : s.seq < 4294967296) (ha : s.ack < 4294967296) :
    FnW Tryz.prog f_law15_pair_play ⟨[.pointer (some ⟨pb, 0, none⟩), .agg ⟨turnL do_ q other tw ba bn bc s da dn dc⟩]⟩ H fun v H' => v = .tuple ⟨[]⟩ ∧ Aft H0 pb cb isn (n + 300) (m + 8196) (now + 100) H' := by
  refine law15_pair_play_sh pb do_ q other tw ba bn bc _ _ _ _ _ _ _ _ da dn dc ?_
  unfold law15_pair_play_p
  refine newB fun tb H1 htb b1 k1 => ⟨_, cellL b1 2 rfl, ?_⟩
  have h1 := h.nil k1
  have hLm : Lims isn n m := ⟨hL.isn, hL.n, by have := hL.m; omega⟩
  have hbl : b.length = bn := by have := hB.len; simpa using this
  have hpos := h.pos
  -- an operation's end
  have wk : ∀ {H2 : Heap} {n' m' : Nat} {t' : Int}, Aft H0 pb cb isn n' m' t' H2 → n' ≤ n + 300 → m' ≤ m + 8196 → t' ≤ now + 100 → ∀ H3, Shut H H2 H3 → Value.tuple ⟨[]⟩ = Value.tuple ⟨[]⟩ ∧ Aft H0 pb cb isn (n + 300) (m + 8196) (now + 100) H3 := fun h2 e1 e2 e3 H3 hs => ⟨rfl, (h2.shut h.keep hs).mono e1 e2 e3⟩
  have same : Aft H0 pb cb isn n m now H1 := ⟨A, W, now, h1, hp, hb, Int.le_refl _⟩
  have j0 : ∀ k : Nat, k < 2 → law15_pair_play_j0 pb tb k H1 fun v H1 => ∀ H2, Shut H H1 H2 → v = .tuple ⟨[]⟩ ∧ Aft H0 pb cb isn (n + 300) (m + 8196) (now + 100) H2 := by
    intro k hk
    obtain ⟨wv, rv, yv, lost, g, hPB⟩ := h1.ex
    unfold law15_pair_play_j0
    refine ⟨_, cellL b1 0 rfl, (among_spec do_ (n := 11) (by omega) (by omega)).mono ?_⟩
    rintro _ _ ⟨rfl, e⟩
    rw [e]
    clear e
    generalize amongV do_ 11 = d
    refine ⟨_, rfl, IfB.intro (fun _ => ?_) fun _ => IfB.intro (fun _ => ⟨_, cellL b1 1 rfl, (among_spec q (n := 100) (by omega) (by omega)).mono ?_⟩) fun _ => IfB.intro (fun _ => ⟨_, _, _, cellL b1 4 rfl, _, _, _, cellL b1 4 rfl, ?_⟩) fun _ => IfB.intro (fun _ => ⟨_, cellL b1 1 rfl, (among_spec q (n := 400) (by omega) (by omega)).mono ?_⟩) fun _ => IfB.intro (fun _ => (shut_op h1 hp hb hLm hk).mono ?_) fun _ => IfB.intro (fun _ => ?_) fun _ => ⟨_, cellL b1 1 rfl, _, cellL b1 3 rfl, (come_op h1 hp hb hLm hk q tw).mono ?_⟩⟩
    · -- the first one is lost
      obtain ⟨ya, yc, ys, hyv, hym, hyo, hyg, hyx⟩ := hPB.y k hk
      have hcell : H1.cell ⟨pb, 6 + k * 1, none⟩ = some (.slice ya ys.length yc) := (cellL hPB.blk _ (pL_y hk)).trans (by rw [hyv])
      have hyl : ys.length = (W.y k).length := by rw [← hym]; simp
      have hyb := hb.y k hk
      have hm := hL.m
      refine InB.intro k rfl hk ⟨_, _, _, hcell, IfB.intro (fun hgt => InB.intro k rfl hk ⟨_, _, _, hcell, ?_⟩) fun _ => wk same (by omega) (by omega) (by omega)⟩
      have hgt : 0 < ys.length := by have := of_decide_eq_true hgt; omega
      refine InC.intro 1 rfl hgt (newB fun z H2 hz b2 k2 => ?_)
      have hyo2 := hyo.keep k2 fun _ _ h => h
      have h8 : ys.length - 1 ≤ 100000000 := by omega
      refine app_segs0 (new := ys.drop 1) hz b2 k2 (by rw [List.length_drop]) (way_drop hyo2 hgt) h8 fun a4 cap4 H4 o4 kk4 => ⟨_, _, _, rfl, InB.intro k rfl hk ?_⟩
      refine h1.wayT hPB hk kk4 (fun y hy => hy.elim) (o4.mono (emp_keep H1)) (fun y hy => .inr (o4.free hy)) (fun z hz => (hyx z (List.mem_of_mem_drop hz)).keep kk4 (fun _ _ h => h) fun _ h => h) fun H6 A6 h6 e6 k6 => ?_
      refine wk (n' := n) (m' := m) (t' := now) ⟨A6, _, now, h6, hp.less hk fun s hs => ?_, ⟨hb.w, fun j hj => ?_⟩, Int.le_refl _⟩ (by omega) (by omega) (by omega)
      · obtain ⟨z, hz, rfl⟩ := List.mem_map.1 hs
        rw [← hym]
        exact List.mem_map_of_mem (List.mem_of_mem_drop hz)
      · show (upF W.y k _ j).length ≤ m
        by_cases e : j = k
        · subst e
          rw [upF_eq]; simp; omega
        · rw [upF_ne e]; exact hb.y j hj
    · rintro _ _ ⟨rfl, e⟩
      rw [e]
      clear e
      have hlt := amongV_lt q (n := 100) (by omega)
      refine ⟨_, rfl, (tick_op h1 hp hb hL hnow (amongV q 100) (by omega)).mono ?_⟩
      rintro _ H2 ⟨rfl, h2⟩
      exact ⟨rfl, wk h2 (by omega) (by omega) (by omega)⟩
    · refine InC.intro (min bn 300) (by omega) (by omega) ((write_op h1 hp hb hLm hk (q := min bn 300) (b := b.take (min bn 300)) ?_ (by omega) (by omega)).mono ?_)
      · have := hB.take (m := min bn 300) (by omega)
        have e : (bv b).take (min bn 300) = bv (b.take (min bn 300)) := by simp [bv, List.map_take]
        rw [e] at this; exact this
      · rintro _ H2 ⟨rfl, h2⟩
        exact ⟨rfl, wk h2 (by omega) (by omega) (by omega)⟩
    · rintro _ _ ⟨rfl, e⟩
      rw [e]
      clear e
      have hlt := amongV_lt q (n := 400) (by omega)
      refine ⟨_, rfl, (get_op h1 hp hb hLm hk (amongV q 400) (by omega)).mono ?_⟩
      rintro _ H2 ⟨rfl, h2⟩
      exact ⟨rfl, wk h2 (by omega) (by omega) (by omega)⟩
    · rintro _ H2 ⟨rfl, h2⟩
      exact ⟨rfl, wk h2 (by omega) (by omega) (by omega)⟩
    · -- something that nobody sent
      obtain ⟨p, now', due, hr, hrn, _, _⟩ := (h1.con k hk).ex
      refine InB.intro k rfl hk ⟨_, cellL hPB.blk _ (pL_cb hk), (State_spec hr).mono ?_⟩
      rintro _ _ ⟨rfl, e⟩
      rw [e]
      clear e
      refine ⟨_, rfl, IfB.intro (fun _ => wk same (by omega) (by omega) (by omega)) fun e1 => ?_⟩
      have hst : (W.c k).st ≠ 1 := fun e => by rw [e] at e1; cases e1
      refine ⟨_, cellL b1 5 rfl, _, cellL b1 6 rfl, _, cellL b1 7 rfl, _, cellL b1 8 rfl, _, cellL b1 9 rfl, _, cellL b1 10 rfl, _, cellL b1 11 rfl, _, cellL b1 12 rfl, _, _, _, cellL b1 13 rfl, ?_⟩
      refine (few_spec (s := s) (hD.keep h1.keep fun _ _ h => h) hdc).mono ?_
      rintro _ H2 ⟨a', mm, c', d', rfl, hd', rfl, o2, k2⟩
      have h2 := h1.nil k2
      have hdl : d'.length ≤ 100 := by rw [hd', List.length_take]; omega
      refine ⟨_, _, _, _, _, _, _, _, _, _, _, rfl, newB fun sb H3 hsb b3 k3 => st9 (s := s) b3 fun H4 b4 k4 => ⟨_, cellL b4 2 rfl, by decide, stL b4 (by simp) rfl fun H5 b5 k5 => ⟨_, cellL b5 4 rfl, (among_spec s.flags (n := 64) (by omega) (by omega)).mono ?_⟩⟩⟩
      rintro _ _ ⟨rfl, e⟩
      rw [e]
      clear e
      generalize amongV s.flags 64 = fl
      have kk : Keep (fun x => x = sb) H3 H5 := k4.trans k5
      have k25 : Keep Nil H2 H5 := k3.then kk fun y hy => .inr (hy ▸ hsb)
      refine ⟨_, rfl, stL b5 (by simp) rfl fun H6 b6 k6 => ?_⟩
      have k26 : Keep Nil H2 H6 := k25.then k6 fun y hy => .inr (hy ▸ hsb)
      have h6 := h2.nil k26
      obtain ⟨wv6, rv6, yv6, lost6, g6, hB6⟩ := h6.ex
      obtain ⟨sq, hsq⟩ : ∃ sq, sq = 2147483648 + s.seq % 1000 := ⟨_, rfl⟩
      have hmod := Nat.mod_lt s.seq (show 0 < 1000 by omega)
      have hseq : IntKind.wrap .u32 (2147483648 + Int.tmod (s.seq : Int) 1000) = (sq : Int) := by
        rw [Int.tmod_eq_emod_of_nonneg (by omega), w32]; omega
      have hsq2 : sq < 4294967296 := by omega
      obtain ⟨s', hs'⟩ : ∃ s' : Sg, s' = ⟨s.src, s.dst, sq, s.ack, bitsOr .i64 (fl : Int) 16, s.win, s.urg, s.big, d'⟩ := ⟨_, rfl⟩
      rw [hseq] at b6
      have b6' : Blk H6 sb T_seg_Segment ⟨sgL s' a' d'.length c'⟩ := by rw [hs']; exact b6
      have hd6 : s'.data = d' := by rw [hs']
      have hq6 : s'.seq = sq := by rw [hs']
      have ha6 : s'.ack < 4294967296 := by rw [hs']; exact ha
      have harg : SgArg H6 (A k) s' a' d'.length := by
        refine ⟨by rw [hq6]; exact hsq2, ha6, ?_, ?_⟩
        · rw [hd6]
          have := (o2.keep k26 fun _ _ h => h).reads
          rwa [Nat.mul_one] at this
        · intro x hx
          rcases o2.2.2 with ⟨e, _⟩ | ⟨z, rest, e, h0, hBz, _⟩
          · rw [e] at hx; cases hx
          · rw [e] at hx; cases hx
            exact ⟨k26.live z hBz.some, fun hA => h1.reg.live k z hA h0⟩
      clear hs'
      refine InB.intro k rfl hk ⟨_, cellL hB6.blk _ (pL_cb hk), _, cellL hB6.blk 8 rfl, ld9 b6' ((made_op h6 hp hb hLm hk hst harg hmod (hq6.trans hsq) (by rw [hd6]; exact hdl)).mono ?_)⟩
      · rintro _ H7 ⟨a7, xs7, cap7, e7, rfl, ho⟩
        refine ⟨_, _, _, _, rfl, (ho.put hk hLm.m cap7).mono ?_⟩
        rintro _ H8 ⟨rfl, A8, W8, h8, hp8, hb8⟩
        exact ⟨rfl, wk (n' := n) (m' := m + 4098) (t' := now) ⟨A8, W8, now, h8, hp8, hb8, Int.le_refl _⟩ (by omega) (by omega) (by omega)⟩
    · rintro _ H2 ⟨rfl, h2⟩
      exact ⟨rfl, wk h2 (by omega) (by omega) (by omega)⟩
  exact IfB.intro (fun _ => j0 1 (by omega)) fun _ => j0 0 (by omega)
end
end Go.Proofs.YtmiepjlnfclelaaGreat
end

section
set_option linter.all false
set_option maxRecDepth 100000
namespace Go.Proofs.YtmiepjlnfclelaaGreat
open Go.Sh Go.Pc Go.Conn
section
variable {H0 H H' : Heap} {pb : Nat} {A : Nat → Nat → Prop} {cb : Nat → Nat} {W : PW} {now t : Int} {k n m : Nat} {isn : Nat → Nat} {a : Option Addr} {xs : List (Sg × Option Addr × Nat)}
theorem fits_op (h : PAt H0 H pb A cb W now) (hp : PI isn W) (hb : PB W n m) (hn : n ≤ 1000000) : FnW Tryz.prog f_law15_pair_fits ⟨[.pointer (some ⟨pb, 0, none⟩)]⟩ H fun v H' => v = .bool true ∧ H' = H := by
  refine law15_pair_fits_sh pb ?_
  unfold law15_pair_fits_p
  obtain ⟨wv, rv, yv, lost, g, hB⟩ := h.ex
  refine loopI (fun f s H' => ∃ j : Nat, s = ((j : Int), ()) ∧ j ≤ 2 ∧ f = 2 - j ∧ H' = H) 2 ⟨0, rfl, by omega, rfl, rfl⟩ ?_
  rintro f s H' ⟨j, rfl, hj, rfl, e⟩ gg
  rw [e]
  clear e H'
  unfold law15_pair_fits_l2
  dsimp only
  refine IfB.intro (fun hlt => ?_) fun _ => fun H2 hs => ⟨rfl, (shutE0 hs).symm⟩
  have hlt : j < 2 := by have := of_decide_eq_true hlt; omega
  have hj1 : 1 - j < 2 := by omega
  have hw2 : IntKind.wrap .i64 (1 - (j : Int)) = ((1 - j : Nat) : Int) := by rw [wrap_id (by omega) (by omega)]; omega
  rw [hw2]
  obtain ⟨wa, wc, hwv, hwo, _⟩ := hB.w (1 - j) hj1
  obtain ⟨ra, rc, hrv, hro, _⟩ := hB.r j hlt
  obtain ⟨f1, f2, f3⟩ := fits (hp.hears hlt)
  have cw : H.cell ⟨pb, 2 + (1 - j) * 1, none⟩ = some (.slice wa (W.w (1 - j)).length wc) := (cellL hB.blk _ (pL_w hj1)).trans (by rw [hwv])
  have cr : H.cell ⟨pb, 4 + j * 1, none⟩ = some (.slice ra (W.r j).length rc) := (cellL hB.blk _ (pL_r hlt)).trans (by rw [hrv])
  have hwle := hwo.le
  have rr : Reads H ra (W.r j).length (bv (W.r j)) := by have := hro.reads; rwa [Nat.mul_one] at this
  have rw_ : Reads H wa (W.r j).length (bv (W.r j)) := by
    have := (hwo.reads).take (m := (W.r j).length) (by omega)
    have e : (bv (W.w (1 - j))).take (W.r j).length = bv (W.r j) := by
      rw [f2]
      simp [bv, List.map_take]
    rw [e] at this; exact this
  have nx : ∀ x, x = false → law15_pair_fits_j0 pb j (fun x' H' => ∃ k', k' < 2 - j ∧ ∃ j : Nat, x' = ((j : Int), ()) ∧ j ≤ 2 ∧ k' = 2 - j ∧ H' = H) x H fun v H1 => ∀ H2, Shut H H1 H2 → v = .bool true ∧ H2 = H := by
    rintro _ rfl
    unfold law15_pair_fits_j0
    have hw1 : IntKind.wrap .i64 ((j : Int) + 1) = ((j + 1 : Nat) : Int) := by rw [wrap_id (by omega) (by omega)]; omega
    rw [hw1]
    exact ifF rfl ⟨2 - (j + 1), by omega, j + 1, rfl, by omega, rfl, rfl⟩
  refine InB.intro (1 - j) rfl hj1 ⟨_, _, _, cw, InB.intro j rfl hlt ⟨_, _, _, cr, ifF (decide_eq_false (by omega)) (InB.intro j rfl hlt ⟨_, _, _, cr, InB.intro j rfl hlt ⟨_, _, _, cr, InC.intro (W.r j).length rfl (by omega) ((same_bytes rr rw_).mono ?_)⟩⟩)⟩⟩
  rintro _ _ ⟨rfl, e⟩
  rw [e]
  clear e
  obtain ⟨p, now', due, hr, _⟩ := (h.con j hlt).ex
  refine ⟨_, rfl, ifF rfl (InB.intro j rfl hlt ⟨_, cellL hB.blk _ (pL_cb hlt), (Ended_spec hr).mono ?_⟩)⟩
  rintro _ _ ⟨rfl, e⟩
  rw [e]
  clear e
  refine ⟨_, rfl, IfB.intro (fun ee => InB.intro j rfl hlt ⟨_, _, _, cr, nx _ ?_⟩) fun _ => nx _ rfl⟩
  unfold Cn_ended at ee
  simp only [Bool.and_eq_true, decide_eq_true_eq] at ee
  have := f3 ee.1 fun jn hjn => by
    have e2 := ee.2
    rw [hjn] at e2
    exact List.eq_nil_of_length_eq_zero e2
  rw [this]
  simp
/-- A slice of segments that a call gave back. -/
structure Gave (H : Heap) (D : Nat → Prop) (u : Value) (l : List Sg) : Prop where
  ex : ∃ a cap xs, u = .slice a xs.length cap ∧ xs.map (·.1) = l ∧ Reads H a (xs.length * 9) (sgsL xs) ∧ ∀ x ∈ xs, SegX H D x
/-- The only segment of a slice. -/
theorem Gave.one {D : Nat → Prop} {u : Value} {s : Sg} (h : Gave H D u [s]) : ∃ b o cap a c, u = .slice (some ⟨b, o, none⟩) 1 cap ∧ SegX H D (s, a, c) ∧ ∀ t, t < 9 → H.cell ⟨b, o + t, none⟩ = (sgL s a s.data.length c)[t]? := by
  obtain ⟨a, cap, xs, rfl, hx, hr, hs⟩ := h.ex
  match xs, hx with
  | [(s', a', c')], hx =>
    have : s' = s := by simpa using hx
    subst this
    cases a with
    | none => have := hr.2; simp at this
    | some ad =>
      obtain ⟨hspot, _⟩ := hr.2 (by show 0 < 1 * 9; omega)
      obtain ⟨b, o, sp⟩ := ad
      simp only at hspot
      subst hspot
      refine ⟨b, o, cap, a', c', rfl, hs _ (List.mem_singleton.2 rfl), fun t ht => ?_⟩
      have := hr.cell (j := t) (by show t < 1 * 9; omega)
      simp only at this
      rw [this]
      show (sgL s' a' s'.data.length c' ++ [])[t]? = _
      rw [List.append_nil]
/-- Its cells, one by one. -/
theorem one9 {b o n c : Nat} {s : Sg} {a : Option Addr} {K : Int → Int → Int → Int → Int → Int → Int → Int → Option Addr → Nat → Nat → Prop} (hb : ∀ t, t < 9 → H.cell ⟨b, o + t, none⟩ = (sgL s a n c)[t]?) (h : K s.src s.dst s.seq s.ack s.flags s.win s.urg s.big a n c) :
    ∃ x0 : Int, H.cell ⟨b, o + 0 * 9, none⟩ = some (Value.int .i64 x0) ∧ ∃ x1 : Int, H.cell ⟨(⟨b, o + 0 * 9, none⟩ : Addr).block, (⟨b, o + 0 * 9, none⟩ : Addr).off + 1, none⟩ = some (Value.int .i64 x1) ∧ ∃ x2 : Int, H.cell ⟨(⟨b, o + 0 * 9, none⟩ : Addr).block, (⟨b, o + 0 * 9, none⟩ : Addr).off + 2, none⟩ = some (Value.int .u32 x2) ∧ ∃ x3 : Int, H.cell ⟨(⟨b, o + 0 * 9, none⟩ : Addr).block, (⟨b, o + 0 * 9, none⟩ : Addr).off + 3, none⟩ = some (Value.int .u32 x3) ∧ ∃ x4 : Int, H.cell ⟨(⟨b, o + 0 * 9, none⟩ : Addr).block, (⟨b, o + 0 * 9, none⟩ : Addr).off + 4, none⟩ = some (Value.int .i64 x4) ∧ ∃ x5 : Int, H.cell ⟨(⟨b, o + 0 * 9, none⟩ : Addr).block, (⟨b, o + 0 * 9, none⟩ : Addr).off + 5, none⟩ = some (Value.int .i64 x5) ∧ ∃ x6 : Int, H.cell ⟨(⟨b, o + 0 * 9, none⟩ : Addr).block, (⟨b, o + 0 * 9, none⟩ : Addr).off + 6, none⟩ = some (Value.int .i64 x6) ∧ ∃ x7 : Int, H.cell ⟨(⟨b, o + 0 * 9, none⟩ : Addr).block, (⟨b, o + 0 * 9, none⟩ : Addr).off + 7, none⟩ = some (Value.int .i64 x7) ∧ ∃ (x8 : Option Addr) (x9 x10 : Nat), H.cell ⟨(⟨b, o + 0 * 9, none⟩ : Addr).block, (⟨b, o + 0 * 9, none⟩ : Addr).off + 8, none⟩ = some (Value.slice x8 x9 x10) ∧ K x0 x1 x2 x3 x4 x5 x6 x7 x8 x9 x10 := by
  have e : o + 0 * 9 = o := by omega
  simp only [e]
  exact ⟨_, hb 0 (by omega), _, hb 1 (by omega), _, hb 2 (by omega), _, hb 3 (by omega), _, hb 4 (by omega), _, hb 5 (by omega), _, hb 6 (by omega), _, hb 7 (by omega), _, _, _, hb 8 (by omega), h⟩
/-- What a call left, as a slice and a connection. -/
theorem Left.gave {F0 : Nat → Prop} {c : Nat} {x : Cn} {v : Value} {l : List Sg} (h : Left H0 F0 H c x t v l) : ∃ F, CAt H c F x t ∧ Gave H (fun y => H0 y = none ∧ ¬ F y ∧ H y ≠ none) v l ∧ Keep F0 H0 H ∧ ∀ y, F y → F0 y ∨ H0 y = none := by
  obtain ⟨p, now', due, ga, gc, xs, hv, hx, hn, hr, hd, kk, hsub, ho⟩ := h.ex
  refine ⟨p.F c, ⟨p, now', due, hr, hn, hd, rfl⟩, ⟨ga, gc, xs, hv, hx, ho.own.reads, fun x hxm => ?_⟩, kk, hsub⟩
  have hs := ho.all x hxm
  exact ⟨hs.seq, hs.ack, hs.rd, fun a ha => by obtain ⟨q1, q2, c, q3⟩ := hs.new a ha; exact ⟨q1, q2, q3.some⟩⟩
theorem works_spec : FnW Tryz.prog f_law15_works ⟨[]⟩ H fun v H' => v = .bool true ∧ Keep Nil H H' := by
  refine law15_works_sh ?_
  unfold law15_works_p
  refine (dial_spec (now := 0) (src := 5) (dst := 6) (first := 100) (by omega) (by omega) rfl rfl).mono ?_
  rintro _ H1 ⟨c0, u0, rfl, hl0⟩
  obtain ⟨F0, a0, g0, k0, s0⟩ := hl0.gave
  rw [dial_eq] at g0
  obtain ⟨b, o, cap, da, dc, rfl, hsx, hc⟩ := g0.one
  refine ⟨_, _, _, _, _, rfl, ifF rfl ?_⟩
  unfold law15_works_j0
  refine ifF rfl (NilP.intro _ rfl (InB.intro 0 rfl (by omega) ?_))
  rw [elemAt_none]
  refine one9 hc ((accept_spec (now := 0) (first := 200) (by omega) (by omega) ⟨hsx.seq, hsx.ack, hsx.rd, fun x hx => ⟨(hsx.at_ x hx).2.2, id⟩⟩ (syn0_can rfl rfl) rfl rfl (by show bitB 2 1 = true; decide) (by show bitB 2 4 = false; decide) (by show bitB 2 2 = false; decide) (by show bitB 2 0 = false; decide) rfl).mono ?_)
  rintro _ H2 ⟨c1, u1, rfl, hl1⟩
  obtain ⟨F1, a1, g1, k1, s1⟩ := hl1.gave
  rw [accept_eq] at g1
  obtain ⟨b1, o1, cap1, da1, dc1, rfl, hsx1, hc1⟩ := g1.one
  refine ⟨_, _, _, _, _, rfl, ifF rfl ?_⟩
  unfold law15_works_j1
  refine ifF rfl (NilP.intro _ rfl (InB.intro 0 rfl (by omega) ?_))
  rw [elemAt_none]
  have a0' := (a0.keep k1 fun _ _ h => h).later (t' := 1) (by omega)
  have F0live : ∀ y, F0 y → H1 y ≠ none := fun y hy => by
    obtain ⟨p, _, _, hr, _, _, rfl⟩ := a0.ex
    exact hr.live hy
  obtain ⟨d1, d2, w, d3, d4, d5⟩ := dialled (src := 5) (dst := 6) (a := 100) (b := 200) rfl rfl (by omega) (by omega)
  refine one9 hc1 ((Take_spec a0' (by omega) ⟨hsx1.seq, hsx1.ack, hsx1.rd, fun x hx => ⟨(hsx1.at_ x hx).2.2, fun hF => F0live _ hF (hsx1.at_ x hx).1⟩⟩).mono ?_)
  rintro _ H3 ⟨u3, rfl, hl3⟩
  obtain ⟨F3, a3, g3, k3, s3⟩ := hl3.gave
  rw [d1]
  rw [d3] at g3
  obtain ⟨b3, o3, cap3, da3, dc3, rfl, hsx3, hc3⟩ := g3.one
  obtain ⟨p3, n3, due3, hr3, _⟩ := a3.ex
  refine ⟨_, _, _, _, rfl, ifF rfl (ifF rfl ((State_spec hr3).mono ?_))⟩
  rintro _ _ ⟨rfl, e⟩
  rw [e, d2]
  clear e
  refine ⟨_, rfl, ?_⟩
  unfold law15_works_j2
  refine ifF rfl (NilP.intro _ rfl (InB.intro 0 rfl (by omega) ?_))
  rw [elemAt_none]
  have F1live : ∀ y, F1 y → H2 y ≠ none := fun y hy => by
    obtain ⟨p, _, _, hr, _, _, rfl⟩ := a1.ex
    exact hr.live hy
  have a1' := (a1.keep k3 fun y hy hF => (s1 y hy).elim (fun z => z) fun z => F0live y hF z).later (t' := 1) (by omega)
  obtain ⟨q1, q2, q3⟩ := accepted (src := 5) (dst := 6) (a := 100) (b := 200) rfl rfl (by omega) (by omega) d4 d5
  refine one9 hc3 ((Take_spec a1' (by omega) ⟨hsx3.seq, hsx3.ack, hsx3.rd, fun x hx => ⟨(hsx3.at_ x hx).2.2, fun hF => F1live _ hF (hsx3.at_ x hx).1⟩⟩).mono ?_)
  rintro _ H4 ⟨u4, rfl, hl4⟩
  obtain ⟨F4, a4, g4, k4, s4⟩ := hl4.gave
  rw [q2]
  rw [q1] at g4
  obtain ⟨a9, cap9, xs9, rfl, hx9, _, _⟩ := g4.ex
  have : xs9 = [] := List.map_eq_nil_iff.1 hx9
  subst this
  obtain ⟨p4, n4, due4, hr4, _⟩ := a4.ex
  refine ⟨_, _, _, _, rfl, ifT rfl (ifT rfl ((State_spec hr4).mono ?_))⟩
  rintro _ _ ⟨rfl, e⟩
  rw [e, q3]
  clear e
  have k01 := k0.trans k1
  have k03 : Keep Nil H H3 := k01.then k3 fun y hy => (s0 y hy).elim (fun z => z.elim) .inr
  have k04 : Keep Nil H H4 := k03.then k4 fun y hy => .inr ((s1 y hy).elim (fun z => z.elim) fun z => k0.free z)
  exact ⟨_, rfl, fun H5 hs => ⟨rfl, shutK k04 hs⟩⟩
end
end Go.Proofs.YtmiepjlnfclelaaGreat
end

section
set_option linter.all false
set_option maxRecDepth 100000
namespace Go.Proofs.YtmiepjlnfclelaaGreat
open Go.Sh Go.Pc Go.Conn
def isn2 (a b : Nat) : Nat → Nat := fun k => if k = 0 then a else b
section
variable {H0 H H' : Heap} {pb : Nat} {A : Nat → Nat → Prop} {cb : Nat → Nat} {W : PW} {now t : Int} {k n m : Nat} {isn : Nat → Nat} {a : Option Addr} {xs : List (Sg × Option Addr × Nat)}
/-- The blocks of two that begin. -/
def reg2 (F0 F1 X : Nat → Prop) (pb : Nat) (ga : Option Addr) : Nat → Nat → Prop
  | 0 => F0
  | 1 => F1
  | 2 => fun y => y = pb
  | 7 => fun y => ga = some ⟨y, 0, none⟩
  | 9 => X
  | _ => fun _ => False
theorem start_spec {a b : Nat} (ha : a < 1000000) (hb : b < 1000000) : FnW Tryz.prog f_law15_start ⟨[.int .u32 a, .int .u32 b]⟩ H fun v H' =>
    ∃ pb A cb W, v = .tuple ⟨[.pointer (some ⟨pb, 0, none⟩), .bool true]⟩ ∧ PAt H H' pb A cb W 0 ∧ PI (isn2 a b) W ∧ PB W 0 1 := by
  refine law15_start_sh a b ?_
  unfold law15_start_p
  refine (dial_spec (now := 0) (src := 5) (dst := 6) (first := a) (by omega) (by omega) rfl rfl).mono ?_
  rintro _ H1 ⟨c0, u0, rfl, hl0⟩
  obtain ⟨F0, a0, g0, k0, s0⟩ := hl0.gave
  rw [dial_eq] at g0
  obtain ⟨b0, o0, cap, da, dc, rfl, hsx, hc⟩ := g0.one
  refine ⟨_, _, _, _, _, rfl, ifF rfl ?_⟩
  unfold law15_start_j0
  refine ifF rfl (NilP.intro _ rfl (InB.intro 0 rfl (by omega) ?_))
  rw [elemAt_none]
  refine one9 hc ((accept_spec (now := 0) (first := b) (by omega) (by omega) ⟨hsx.seq, hsx.ack, hsx.rd, fun x hx => ⟨(hsx.at_ x hx).2.2, id⟩⟩ (syn0_can rfl rfl) rfl rfl (by show bitB 2 1 = true; decide) (by show bitB 2 4 = false; decide) (by show bitB 2 2 = false; decide) (by show bitB 2 0 = false; decide) rfl).mono ?_)
  rintro _ H2 ⟨c1, u1, rfl, hl1⟩
  obtain ⟨p, now', due, ga, gc, xs, rfl, hx, hn, hr, hd, kk, hsub, ho⟩ := hl1.ex
  have k01 : Keep Nil H H2 := k0.trans kk
  have F0live : ∀ y, F0 y → H1 y ≠ none := fun y hy => by
    obtain ⟨p, _, _, hr, _, _, rfl⟩ := a0.ex
    exact hr.live hy
  have F0new : ∀ y, F0 y → H y = none := fun y hy => (s0 y hy).elim (fun z => z.elim) id
  have F1dead : ∀ y, p.F c1 y → H1 y = none := fun y hy => (hsub y hy).elim (fun z => z.elim) id
  refine ⟨_, _, _, _, _, rfl, newB fun pb H3 hpb b3 k3 => ?_⟩
  let X : Nat → Prop := fun y => ∃ x ∈ xs, ∃ a, x.2.1 = some a ∧ a.block = y
  have hX : ∀ y, X y → H1 y = none ∧ ¬ p.F c1 y ∧ ∃ c, Blk H2 y T_uint8 c := fun y ⟨x, hxm, a, ha, e⟩ => by rw [← e]; exact (ho.all x hxm).new a ha
  have hG : ∀ y, ga = some ⟨y, 0, none⟩ → H1 y = none ∧ ∃ c, Blk H2 y T_seg_Segment c := fun y hy => ⟨ho.own.free hy, ho.own.live hy⟩
  have live2 : ∀ i y, i ≠ 2 → reg2 F0 (p.F c1) X pb ga i y → H2 y ≠ none := fun i y hi hy => by
    match i, hi, hy with
    | 0, _, hy => exact kk.live y (F0live y hy)
    | 1, _, hy => exact hr.live hy
    | 7, _, hy => obtain ⟨_, c, q⟩ := hG y hy; exact q.some
    | 9, _, hy => obtain ⟨_, _, c, q⟩ := hX y hy; exact q.some
    | 3, _, hy => exact hy.elim
    | 4, _, hy => exact hy.elim
    | 5, _, hy => exact hy.elim
    | 6, _, hy => exact hy.elim
    | 8, _, hy => exact hy.elim
    | (i + 10), _, hy => exact hy.elim
  have ap : ∀ y, (F0 y → p.F c1 y → False) ∧ (F0 y → ga = some ⟨y, 0, none⟩ → False) ∧ (F0 y → X y → False) ∧ (p.F c1 y → ga = some ⟨y, 0, none⟩ → False) ∧ (p.F c1 y → X y → False) ∧ (ga = some ⟨y, 0, none⟩ → X y → False) := fun y =>
    ⟨fun h1 h2 => F0live y h1 (F1dead y h2), fun h1 h2 => F0live y h1 (hG y h2).1, fun h1 h2 => F0live y h1 (hX y h2).1, fun h1 h2 => ho.far y h2 h1, fun h1 h2 => (hX y h2).2.1 h1, fun h1 h2 => by
      obtain ⟨_, c, q⟩ := hG y h1
      obtain ⟨_, _, c', q'⟩ := hX y h2
      exact absurd (blk_ty q q') (by decide)⟩
  have nos : ∀ i y, (i = 3 ∨ i = 4 ∨ i = 5 ∨ i = 6 ∨ i = 8 ∨ 10 ≤ i) → ¬ reg2 F0 (p.F c1) X pb ga i y := fun i y hi hy => by
    match i, hi, hy with
    | 3, _, hy => exact hy
    | 4, _, hy => exact hy
    | 5, _, hy => exact hy
    | 6, _, hy => exact hy
    | 8, _, hy => exact hy
    | (i + 10), _, hy => exact hy
    | 0, hi, _ => omega
    | 1, hi, _ => omega
    | 2, hi, _ => omega
    | 7, hi, _ => omega
    | 9, hi, _ => omega
  have reg : Reg H H3 (reg2 F0 (p.F c1) X pb ga) := by
    refine ⟨fun i y hy => ?_, fun i y hy => ?_, fun i j hij y hi hj => ?_⟩
    · by_cases e : i = 2
      · subst e
        have hy : y = pb := hy
        rw [hy]; exact b3.some
      · exact k3.live y (live2 i y e hy)
    · by_cases e : i = 2
      · subst e
        have hy : y = pb := hy
        rw [hy]; exact k01.free hpb
      · by_cases e0 : i = 0
        · subst e0; exact F0new y hy
        · have : H1 y = none := by
            by_cases e1 : i = 1
            · subst e1; exact F1dead y hy
            · by_cases e7 : i = 7
              · subst e7; exact (hG y hy).1
              · by_cases e9 : i = 9
                · subst e9; exact (hX y hy).1
                · exact (nos i y (by omega) hy).elim
          exact k0.free this
    · have key : ∀ i j, i < j → reg2 F0 (p.F c1) X pb ga i y → reg2 F0 (p.F c1) X pb ga j y → False := by
        intro i j hij hi hj
        obtain ⟨q1, q2, q3, q4, q5, q6⟩ := ap y
        by_cases e2 : i = 2
        · subst e2
          have hi : y = pb := hi
          exact live2 j y (by omega) hj (hi ▸ hpb)
        · by_cases f2 : j = 2
          · subst f2
            have hj : y = pb := hj
            exact live2 i y e2 hi (hj ▸ hpb)
          · have ci : i = 0 ∨ i = 1 ∨ i = 7 ∨ i = 9 := Classical.byContradiction fun z => nos i y (by omega) hi
            have cj : j = 0 ∨ j = 1 ∨ j = 7 ∨ j = 9 := Classical.byContradiction fun z => nos j y (by omega) hj
            rcases ci with rfl | rfl | rfl | rfl <;> rcases cj with rfl | rfl | rfl | rfl <;> first | omega | exact q1 hi hj | exact q2 hi hj | exact q3 hi hj | exact q4 hi hj | exact q5 hi hj | exact q6 hi hj
      rcases Nat.lt_or_gt_of_ne hij with e | e
      · exact key i j e hi hj
      · exact key j i e hj hi
  refine fun H4 hs => ⟨pb, reg2 F0 (p.F c1) X pb ga, fun k => if k = 0 then c0 else c1, ⟨fun k => if k = 0 then (dial 5 6 a).2 else (accept (syn0 5 6 a) b).2, fun _ => [], fun _ => [], fun k => if k = 0 then [syn1 5 6 a b] else []⟩, rfl, PAt.shut (H1 := H) ?_ (Keep.refl _ _) hs, ?_, ⟨fun k hk => Nat.le_refl _, fun k hk => ?_⟩⟩
  · refine ⟨reg, k01.trans k3, by omega, rfl, fun k hk => ?_, fun _ => .slice none 0 0, fun _ => .slice none 0 0, fun k => if k = 0 then .slice ga xs.length gc else .slice none 0 0, false, fun _ => false, b3, fun k hk => ⟨none, 0, rfl, Sh.Own.nil, fun y hy => by cases hy⟩, fun k hk => ⟨none, 0, rfl, Sh.Own.nil, fun y hy => by cases hy⟩, fun k hk => ?_⟩
    · rcases two_cases hk with rfl | rfl
      · exact (a0.keep kk fun _ _ h => h).keep k3 fun _ _ h => h
      · exact CAt.keep ⟨p, now', due, hr, hn, hd, rfl⟩ k3 fun _ _ h => h
    · rcases two_cases hk with rfl | rfl
      · refine ⟨ga, gc, xs, rfl, hx, (ho.own.mono (emp_keep H1)).keep k3 fun _ _ h => h, fun y hy => hy, fun x hxm => ?_⟩
        have hq := ho.all x hxm
        exact ⟨hq.seq, hq.ack, hq.rd.keep k3 fun _ _ h => h, fun a ha => ⟨x, hxm, a, ha, rfl⟩⟩
      · exact ⟨none, 0, [], rfl, rfl, Sh.Own.nil, (fun y hy => by cases hy), (fun x hx => by cases hx)⟩
  · obtain ⟨d1, d2, d3⟩ := dial_ok (isn := a) 5 6 (by unfold lim; omega)
    obtain ⟨e1, e2, e3⟩ := accept_ok (isn := b) (b := a) (s := syn0 5 6 a) (w := []) (e := false) (by unfold lim; omega) rfl (by unfold lim; omega)
    exact ⟨d1, e1, d3 b [] _, e3, e2, fun s hs => by cases hs⟩
  · show (if k = 0 then [syn1 5 6 a b] else []).length ≤ 1
    split
    · exact Nat.le_refl _
    · exact Nat.zero_le _
/-- A turn, as it is handed in. -/
def IsTurn (H : Heap) (b o : Nat) : Prop := ∃ do_ q other tw ba bn bc s da dn dc bs, (∀ t, t < 14 → H.cell ⟨b, o + t, none⟩ = (turnL do_ q other tw ba bn bc s da dn dc)[t]?) ∧ Reads H ba bn (bv bs) ∧ bn ≤ bc ∧ Reads H da dn (bv s.data) ∧ dn ≤ dc ∧ s.seq < 4294967296 ∧ s.ack < 4294967296
def IsTurns (H : Heap) (a : Option Addr) (n : Nat) : Prop := ∀ i, i < n → ∃ b o, a = some ⟨b, o, none⟩ ∧ IsTurn H b (o + i * 14)
theorem stream_spec {a b : Nat} {ta : Option Addr} {tn tc : Nat} (ht : IsTurns H ta tn) : FnW Tryz.prog f_law15_ConnStream ⟨[.int .u32 a, .int .u32 b, .slice ta tn tc]⟩ H fun v H' => v = .bool true ∧ Keep Nil H H' := by
  refine law15_ConnStream_sh a b ta tn tc ?_
  unfold law15_ConnStream_p
  refine works_spec.mono ?_
  rintro _ H1 ⟨rfl, k1⟩
  have ea : Int.tmod (a : Int) 1000000 = ((a % 1000000 : Nat) : Int) := by rw [Int.tmod_eq_emod_of_nonneg (by omega)]; omega
  have eb : Int.tmod (b : Int) 1000000 = ((b % 1000000 : Nat) : Int) := by rw [Int.tmod_eq_emod_of_nonneg (by omega)]; omega
  refine ⟨_, rfl, ifF rfl ⟨by decide, by decide, ?_⟩⟩
  rw [ea, eb]
  have la := Nat.mod_lt a (show 0 < 1000000 by omega)
  have lb := Nat.mod_lt b (show 0 < 1000000 by omega)
  generalize a % 1000000 = a' at la
  generalize b % 1000000 = b' at lb
  refine (start_spec la lb).mono ?_
  rintro _ H2 ⟨pb, A, cb, W, rfl, h2, hp2, hb2⟩
  have k02 := k1.trans h2.keep
  refine ⟨_, _, rfl, ifF rfl (loopI (fun f s H' => ∃ (i : Nat) (A : Nat → Nat → Prop) (W : PW) (now : Int), s = ((i : Int), ()) ∧ i ≤ 100 ∧ f = 100 - i ∧ PAt H1 H' pb A cb W now ∧ PI (isn2 a' b') W ∧ PB W (300 * i) (1 + 8196 * i) ∧ now ≤ 100 * (i : Int)) 100 ⟨0, A, W, 0, rfl, by omega, rfl, h2, hp2, hb2, by omega⟩ ?_)⟩
  rintro f s H3 ⟨i, A3, W3, now3, rfl, hi, rfl, h3, hp3, hb3, hn3⟩ gg
  unfold law15_ConnStream_l7
  dsimp only
  have fin : ∀ H4, Shut H H3 H4 → Value.bool true = .bool true ∧ Keep Nil H H4 := fun H4 hs => ⟨rfl, shutK (k1.trans h3.keep) hs⟩
  unfold law15_ConnStream_j0
  refine IfB.intro (fun hlt => IfB.intro (fun h100 => ?_) fun _ => fin) fun _ => ifF rfl fin
  have hlt : i < tn := by have := of_decide_eq_true hlt; omega
  have h100 : i < 100 := by have := of_decide_eq_true h100; omega
  obtain ⟨q, o, rfl, do_, nn, other, tw, ba, bn, bc, sg, da, dn, dc, bs, hcell, hB, hbc, hD, hdc, hq, hak⟩ := ht i hlt
  refine NilP.intro _ rfl (InB.intro i rfl hlt ?_)
  rw [elemAt_none]
  have k03 := k1.trans h3.keep
  have cell3 : ∀ t, t < 14 → H3.cell ⟨q, o + i * 14 + t, none⟩ = (turnL do_ nn other tw ba bn bc sg da dn dc)[t]? := fun t htt => by
    have hc := hcell t htt
    obtain ⟨v, hv⟩ : ∃ v, (turnL do_ nn other tw ba bn bc sg da dn dc)[t]? = some v := ⟨_, List.getElem?_eq_getElem (by show t < 14; exact htt)⟩
    rw [hv] at hc ⊢
    have hne : H q ≠ none := fun e => by
      unfold Heap.cell at hc
      simp only [e] at hc
      cases hc
    unfold Heap.cell at hc ⊢
    rw [k03.same q id hne]
    exact hc
  refine ⟨_, cell3 0 (by omega), _, cell3 1 (by omega), _, cell3 2 (by omega), _, cell3 3 (by omega), _, _, _, cell3 4 (by omega), _, cell3 5 (by omega), _, cell3 6 (by omega), _, cell3 7 (by omega), _, cell3 8 (by omega), _, cell3 9 (by omega), _, cell3 10 (by omega), _, cell3 11 (by omega), _, cell3 12 (by omega), _, _, _, cell3 13 (by omega), ?_⟩
  have hL : Lims (isn2 a' b') (300 * i) (1 + 8196 * i + 5000) := ⟨fun k hk => by
    unfold isn2
    split
    · exact la
    · exact lb, by omega, by omega⟩
  refine (play_op h3 hp3 hb3 hL (by omega) do_ nn other tw (hB.keep k1 fun _ _ h => h) hbc (hD.keep k1 fun _ _ h => h) hdc hq hak).mono ?_
  rintro _ H4 ⟨rfl, A4, W4, now4, h4, hp4, hb4, hn4⟩
  refine ⟨rfl, (fits_op h4 hp4 hb4 (by omega)).mono ?_⟩
  rintro _ _ ⟨rfl, e⟩
  rw [e]
  clear e
  have hw1 : IntKind.wrap .i64 ((i : Int) + 1) = ((i + 1 : Nat) : Int) := by rw [wrap_id (by omega) (by omega)]; omega
  rw [hw1]
  exact ⟨true, rfl, ifF rfl ⟨100 - (i + 1), by omega, i + 1, A4, W4, now4, rfl, by omega, rfl, h4, hp4, ⟨fun k hk => by have := hb4.w k hk; omega, fun k hk => by have := hb4.y k hk; omega⟩, by omega⟩⟩
end
end Go.Proofs.YtmiepjlnfclelaaGreat
end

section
set_option linter.all false
set_option maxRecDepth 100000
namespace Go.Proofs.YtmiepjlnfclelaaGreat
open Go.Sh Go.Pc Go.Conn Go.ChangeShapes Go.WideShapes Go.ChangeAt Go.RowKit

theorem und_int15 : Tryz.prog.underlying T_int = some (.int .i64) := by kernel_rfl
theorem und_u32 : Tryz.prog.underlying T_uint32 = some (.int .u32) := by kernel_rfl
theorem und_u8 : Tryz.prog.underlying T_uint8 = some (.int .u8) := by kernel_rfl
theorem und_bool15 : Tryz.prog.underlying T_bool = some .bool := by kernel_rfl
theorem und_bytes : Tryz.prog.underlying T_sl_uint8 = some (.slice T_uint8) := by kernel_rfl
theorem und_turns : Tryz.prog.underlying T_sl_pointsmanlaw15_Turn = some (.slice T_law15_Turn) := by kernel_rfl
theorem und_seg : Tryz.prog.underlying T_seg_Segment = some (.struct #[⟨ "From", T_int, 0, false, "", "", 0⟩, ⟨ "To", T_int, 1, false, "", "", 8⟩, ⟨ "Seq", T_uint32, 2, false, "", "", 16⟩, ⟨ "Ack", T_uint32, 3, false, "", "", 20⟩, ⟨ "Flags", T_int, 4, false, "", "", 24⟩, ⟨ "Window", T_int, 5, false, "", "", 32⟩, ⟨ "Urgent", T_int, 6, false, "", "", 40⟩, ⟨ "Greatest", T_int, 7, false, "", "", 48⟩, ⟨ "Data", T_sl_uint8, 8, false, "", "", 56⟩]) := by kernel_rfl
theorem und_turn : Tryz.prog.underlying T_law15_Turn = some (.struct #[⟨ "Do", T_int, 0, false, "", "", 0⟩, ⟨ "N", T_int, 1, false, "", "", 8⟩, ⟨ "Other", T_bool, 2, false, "", "", 16⟩, ⟨ "Twice", T_bool, 3, false, "", "", 17⟩, ⟨ "B", T_sl_uint8, 4, false, "", "", 24⟩, ⟨ "S", T_seg_Segment, 5, false, "", "", 48⟩]) := by kernel_rfl
theorem c_int : Tryz.prog.cellsOf T_int = 1 := by kernel_rfl
theorem c_u32 : Tryz.prog.cellsOf T_uint32 = 1 := by kernel_rfl
theorem c_u8 : Tryz.prog.cellsOf T_uint8 = 1 := by kernel_rfl
theorem c_bool : Tryz.prog.cellsOf T_bool = 1 := by kernel_rfl
theorem c_bytes : Tryz.prog.cellsOf T_sl_uint8 = 1 := by kernel_rfl
theorem c_seg : Tryz.prog.cellsOf T_seg_Segment = 9 := by kernel_rfl
theorem c_turn : Tryz.prog.cellsOf T_law15_Turn = 14 := by kernel_rfl
section
variable {H : Type} {enc : TypeId × Value → H} {W : World}
theorem at_int {l : List Value} {n o : Nat} {x : DataW H × List MemPlace} (h : DataW.trod enc Tryz.prog W 0 (fun _ => true) true n T_int ((l.drop o).take (Tryz.prog.cellsOf T_int)) = some x) : ∃ z, l[o]? = some (.int .i64 z) := by
  obtain ⟨m, hm, _⟩ := DataW.trod_int und_int15 h
  rw [c_int] at hm
  exact ⟨m, take_one hm⟩
theorem at_u32 {l : List Value} {n o : Nat} {x : DataW H × List MemPlace} (h : DataW.trod enc Tryz.prog W 0 (fun _ => true) true n T_uint32 ((l.drop o).take (Tryz.prog.cellsOf T_uint32)) = some x) : ∃ z : Nat, z < 4294967296 ∧ l[o]? = some (.int .u32 z) := by
  obtain ⟨m, hm, _, hwf⟩ := DataW.trod_int und_u32 h
  rw [c_u32] at hm
  have hr : 0 ≤ m ∧ m < 4294967296 := by
    have hm1 : IntKind.u32.min = 0 := rfl
    have hM : IntKind.u32.max = 4294967295 := rfl
    simp [Lit.wf, hm1, hM] at hwf
    omega
  refine ⟨m.toNat, by omega, ?_⟩
  have e : ((m.toNat : Nat) : Int) = m := by omega
  rw [e]
  exact take_one hm
theorem at_bool {l : List Value} {n o : Nat} {x : DataW H × List MemPlace} (h : DataW.trod enc Tryz.prog W 0 (fun _ => true) true n T_bool ((l.drop o).take (Tryz.prog.cellsOf T_bool)) = some x) : ∃ z, l[o]? = some (.bool z) := by
  obtain ⟨m, hm, _⟩ := DataW.trod_bool und_bool15 h
  rw [c_bool] at hm
  exact ⟨m, take_one hm⟩
theorem at_bytes {l : List Value} {n o : Nat} {x : DataW H × List MemPlace} (h : DataW.trod enc Tryz.prog W 0 (fun _ => true) true n T_sl_uint8 ((l.drop o).take (Tryz.prog.cellsOf T_sl_uint8)) = some x) : ∃ a k c bs, l[o]? = some (.slice a k c) ∧ k ≤ c ∧ Reads (hp W) a k (bv bs) := by
  obtain ⟨a, k, c, bs, hm, h2, _, h4⟩ := trod_bytes und_bytes und_u8 c_u8 h
  rw [c_bytes] at hm
  refine ⟨a, k, c, bs.map fun x => (x.toNat : Int), take_one hm, h2, ?_⟩
  have : bv (bs.map fun x => (x.toNat : Int)) = bs.map fun x => Value.int .u8 x.toNat := by simp [bv]
  rw [this]; exact h4
/-- A segment that is handed in. -/
theorem at_seg {l : List Value} {n : Nat} {x : DataW H × List MemPlace} (h : DataW.trod enc Tryz.prog W 0 (fun _ => true) true n T_seg_Segment l = some x) :
    ∃ s da dn dc, (∀ t, t < 9 → l[t]? = (sgL s da dn dc)[t]?) ∧ Reads (hp W) da dn (bv s.data) ∧ dn ≤ dc ∧ s.seq < 4294967296 ∧ s.ack < 4294967296 := by
  obtain ⟨xs, n1, _, _, hl2, hxl, hf⟩ := DataW.trod_struct und_seg h
  have get : ∀ (k : Nat) (f : Field), k < 9 → (#[⟨ "From", T_int, 0, false, "", "", 0⟩, ⟨ "To", T_int, 1, false, "", "", 8⟩, ⟨ "Seq", T_uint32, 2, false, "", "", 16⟩, ⟨ "Ack", T_uint32, 3, false, "", "", 20⟩, ⟨ "Flags", T_int, 4, false, "", "", 24⟩, ⟨ "Window", T_int, 5, false, "", "", 32⟩, ⟨ "Urgent", T_int, 6, false, "", "", 40⟩, ⟨ "Greatest", T_int, 7, false, "", "", 48⟩, ⟨ "Data", T_sl_uint8, 8, false, "", "", 56⟩] : Array Field)[k]? = some f → ∃ x, DataW.trod enc Tryz.prog W 0 (fun _ => true) true n1 f.type ((l.drop f.offset).take (Tryz.prog.cellsOf f.type)) = some x := by
    intro k f hk he
    refine ⟨xs[k]'(by rw [hxl]; exact hk), ?_⟩
    rw [hf k f he]
    exact List.getElem?_eq_getElem _
  obtain ⟨_, g0⟩ := get 0 _ (by omega) rfl
  obtain ⟨_, g1⟩ := get 1 _ (by omega) rfl
  obtain ⟨_, g2⟩ := get 2 _ (by omega) rfl
  obtain ⟨_, g3⟩ := get 3 _ (by omega) rfl
  obtain ⟨_, g4⟩ := get 4 _ (by omega) rfl
  obtain ⟨_, g5⟩ := get 5 _ (by omega) rfl
  obtain ⟨_, g6⟩ := get 6 _ (by omega) rfl
  obtain ⟨_, g7⟩ := get 7 _ (by omega) rfl
  obtain ⟨_, g8⟩ := get 8 _ (by omega) rfl
  obtain ⟨z0, e0⟩ := at_int g0
  obtain ⟨z1, e1⟩ := at_int g1
  obtain ⟨z2, b2, e2⟩ := at_u32 g2
  obtain ⟨z3, b3, e3⟩ := at_u32 g3
  obtain ⟨z4, e4⟩ := at_int g4
  obtain ⟨z5, e5⟩ := at_int g5
  obtain ⟨z6, e6⟩ := at_int g6
  obtain ⟨z7, e7⟩ := at_int g7
  obtain ⟨da, dn, dc, bs, e8, hle, hr⟩ := at_bytes g8
  refine ⟨⟨z0, z1, z2, z3, z4, z5, z6, z7, bs⟩, da, dn, dc, fun t ht => ?_, hr, hle, b2, b3⟩
  match t, ht with
  | 0, _ => exact e0
  | 1, _ => exact e1
  | 2, _ => exact e2
  | 3, _ => exact e3
  | 4, _ => exact e4
  | 5, _ => exact e5
  | 6, _ => exact e6
  | 7, _ => exact e7
  | 8, _ => exact e8
/-- A turn that is handed in. -/
theorem at_turn {l : List Value} {n : Nat} {x : DataW H × List MemPlace} (h : DataW.trod enc Tryz.prog W 0 (fun _ => true) true n T_law15_Turn l = some x) :
    ∃ do_ q other tw ba bn bc s da dn dc bs, (∀ t, t < 14 → l[t]? = (turnL do_ q other tw ba bn bc s da dn dc)[t]?) ∧ Reads (hp W) ba bn (bv bs) ∧ bn ≤ bc ∧ Reads (hp W) da dn (bv s.data) ∧ dn ≤ dc ∧ s.seq < 4294967296 ∧ s.ack < 4294967296 := by
  obtain ⟨xs, n1, _, _, hl2, hxl, hf⟩ := DataW.trod_struct und_turn h
  have get : ∀ (k : Nat) (f : Field), k < 6 → (#[⟨ "Do", T_int, 0, false, "", "", 0⟩, ⟨ "N", T_int, 1, false, "", "", 8⟩, ⟨ "Other", T_bool, 2, false, "", "", 16⟩, ⟨ "Twice", T_bool, 3, false, "", "", 17⟩, ⟨ "B", T_sl_uint8, 4, false, "", "", 24⟩, ⟨ "S", T_seg_Segment, 5, false, "", "", 48⟩] : Array Field)[k]? = some f → ∃ x, DataW.trod enc Tryz.prog W 0 (fun _ => true) true n1 f.type ((l.drop f.offset).take (Tryz.prog.cellsOf f.type)) = some x := by
    intro k f hk he
    refine ⟨xs[k]'(by rw [hxl]; exact hk), ?_⟩
    rw [hf k f he]
    exact List.getElem?_eq_getElem _
  obtain ⟨_, g0⟩ := get 0 _ (by omega) rfl
  obtain ⟨_, g1⟩ := get 1 _ (by omega) rfl
  obtain ⟨_, g2⟩ := get 2 _ (by omega) rfl
  obtain ⟨_, g3⟩ := get 3 _ (by omega) rfl
  obtain ⟨_, g4⟩ := get 4 _ (by omega) rfl
  obtain ⟨_, g5⟩ := get 5 _ (by omega) rfl
  obtain ⟨z0, e0⟩ := at_int g0
  obtain ⟨z1, e1⟩ := at_int g1
  obtain ⟨z2, e2⟩ := at_bool g2
  obtain ⟨z3, e3⟩ := at_bool g3
  obtain ⟨ba, bn, bc, bs, e4, hle, hr⟩ := at_bytes g4
  obtain ⟨s, da, dn, dc, hs, hr2, hle2, b1, b2⟩ := at_seg g5
  have hs' : ∀ t, t < 9 → l[5 + t]? = (sgL s da dn dc)[t]? := fun t ht => by
    have := hs t ht
    change ((l.drop 5).take (Tryz.prog.cellsOf T_seg_Segment))[t]? = _ at this
    rw [c_seg, List.getElem?_take_of_lt ht, List.getElem?_drop] at this
    exact this
  refine ⟨z0, z1, z2, z3, ba, bn, bc, s, da, dn, dc, bs, fun t ht => ?_, hr, hle, hr2, hle2, b1, b2⟩
  match t, ht with
  | 0, _ => exact e0
  | 1, _ => exact e1
  | 2, _ => exact e2
  | 3, _ => exact e3
  | 4, _ => exact e4
  | 5, _ => exact hs' 0 (by omega)
  | 6, _ => exact hs' 1 (by omega)
  | 7, _ => exact hs' 2 (by omega)
  | 8, _ => exact hs' 3 (by omega)
  | 9, _ => exact hs' 4 (by omega)
  | 10, _ => exact hs' 5 (by omega)
  | 11, _ => exact hs' 6 (by omega)
  | 12, _ => exact hs' 7 (by omega)
  | 13, _ => exact hs' 8 (by omega)
/-- A number that is handed in. -/
theorem arg_u32 {x : Int} {d : DataW H} {ps : List MemPlace} (h : DataW.Trod enc Tryz.prog W 0 (fun _ => true) true T_uint32 (.int .u32 x) d ps) : ∃ z : Nat, z < 4294967296 ∧ x = z := by
  obtain ⟨fuel, h⟩ := h
  obtain ⟨m, hm, _, hwf⟩ := DataW.trod_int und_u32 h
  have hm : x = m := by
    simp only [Value.cells, List.cons.injEq, and_true] at hm
    cases hm; rfl
  subst hm
  have hr : 0 ≤ x ∧ x < 4294967296 := by
    have hm1 : IntKind.u32.min = 0 := rfl
    have hM : IntKind.u32.max = 4294967295 := rfl
    simp [Lit.wf, hm1, hM] at hwf
    omega
  exact ⟨x.toNat, by omega, by omega⟩
theorem open_turns {base : Nat} {v : Value} {d : DataW H} {ps : List MemPlace} (hval : Value.okWide Tryz.prog W .any base T_sl_pointsmanlaw15_Turn v) (h : DataW.Trod enc Tryz.prog W 0 (fun _ => true) true T_sl_pointsmanlaw15_Turn v d ps) :
    ∃ (a : Option Addr) (n c : Nat), v = .slice a n c ∧ IsTurns (hp W) a n := by
  obtain ⟨a0, n0, c0, rfl⟩ := okWide_slice und_turns hval
  obtain ⟨fuel, h⟩ := h
  rcases Go.Deep.open_slice und_turns h with ⟨h1, _⟩ | ⟨a, len, cap, m, n', D, Pl, h1, _, hlc, _, hm, _, hel⟩
  · simp only [Value.cells, List.cons.injEq, and_true] at h1
    cases h1
    exact ⟨_, _, _, rfl, fun i hi => by omega⟩
  · simp only [Value.cells, List.cons.injEq, and_true] at h1
    cases h1
    simp only [if_true] at hm
    subst hm
    refine ⟨_, _, _, rfl, fun i hi => ?_⟩
    obtain ⟨cs, hcs, htr⟩ := hel i (by omega)
    rw [c_turn] at hcs
    obtain ⟨_, hl, hcell⟩ := World.cells?_some hcs
    obtain ⟨do_, q, other, tw, ba, bn, bc, s, da, dn, dc, bs, hc, r1, r2, r3, r4, r5, r6⟩ := at_turn htr
    obtain ⟨cs', hcs', _⟩ := hel 0 (by omega)
    rw [c_turn] at hcs'
    obtain ⟨_, hl', hcell'⟩ := World.cells?_some hcs'
    have s0 := hcell' 0 (by omega)
    rw [List.getElem?_eq_getElem (by omega)] at s0
    obtain ⟨hsp, _⟩ := cell_spot (H := hp W) s0
    obtain ⟨b, o, sp⟩ := a
    replace hsp : sp = none := by simpa [Addr.add] using hsp
    subst hsp
    refine ⟨b, o, rfl, do_, q, other, tw, ba, bn, bc, s, da, dn, dc, bs, fun t ht => ?_, r1, r2, r3, r4, r5, r6⟩
    have ea : ((⟨b, o, none⟩ : Addr).add (i * 14)).add t = ⟨b, o + i * 14 + t, none⟩ := by
      rw [add_of_spot (a := ⟨b, o, none⟩) rfl (i * 14)]
      exact add_of_spot rfl t
    rw [hp_cell, ← ea, hcell t ht]
    exact hc t ht
end
end Go.Proofs.YtmiepjlnfclelaaGreat
end

section
set_option linter.all false
set_option maxRecDepth 100000
namespace Go.Proofs.YtmiepjlnfclelaaGreat
open Go.Sh Go.Pc Go.Conn
section
variable {H0 H H' : Heap}
theorem room_spec (n least : Int) : FnW Tryz.prog f_ref14_room ⟨[.int .i64 n, .int .i64 least]⟩ H fun v H' => v = .bool (decide (n ≥ least) && decide (n ≤ 65535)) ∧ H' = H := by
  refine ref14_room_sh n least ?_
  unfold ref14_room_p
  refine IfB.intro (fun h H2 hs => ⟨?_, (shutE0 hs).symm⟩) fun h H2 hs => ⟨?_, (shutE0 hs).symm⟩
  · rw [h]; rfl
  · rw [h]; rfl
theorem rport_spec {z : Int} : FnW Tryz.prog f_ref15_port ⟨[.int .i64 z]⟩ H fun v H' => v = .bool (portB z) ∧ H' = H := by
  refine ref15_port_sh z ?_
  unfold ref15_port_p
  refine IfB.intro (fun h H2 hs => ⟨?_, (shutE0 hs).symm⟩) fun h H2 hs => ⟨?_, (shutE0 hs).symm⟩
  · have h := of_decide_eq_true h
    unfold portB
    rw [decide_eq_true (by omega : (1 : Int) ≤ z), Bool.true_and]
  · have h := of_decide_eq_false h
    unfold portB
    rw [decide_eq_false (by omega : ¬ (1 : Int) ≤ z), Bool.false_and]
theorem radd_spec {a n : Int} : FnW Tryz.prog f_ref10_Add ⟨[.int .u32 a, .int .i64 n]⟩ H fun v H' => U32 v ∧ H' = H := by
  refine ref10_Add_sh a n ?_
  unfold ref10_Add_p
  obtain ⟨m, hm, e⟩ := wrapN (IntKind.wrap .u64 (IntKind.wrap .u64 a + IntKind.wrap .u64 n))
  exact fun H2 hs => ⟨⟨m, hm, by rw [e]⟩, (shutE0 hs).symm⟩
def obR (u : Nat) : List Value := [.int .u32 u, .slice none 0 0, .int .i64 0, .int .i64 4096, .int .i64 0, .int .i64 536, .int .i64 0, .int .i64 0, .int .i64 0, .int .i64 0, .bool false, .bool false, .int .u32 0, .int .i64 0]
theorem rnew_spec {u : Nat} : FnW Tryz.prog f_ref14_New ⟨[.int .u32 u, .int .i64 4096, .int .i64 0, .int .i64 536]⟩ H fun v H' => ∃ ob, v = .tuple ⟨[.pointer (some ⟨ob, 0, none⟩), .int .i64 0]⟩ ∧ Blk H' ob T_ref14_Outbox ⟨obR u⟩ ∧ Keep Nil H H' := by
  refine ref14_New_sh u 4096 0 536 ?_
  unfold ref14_New_p
  refine (room_spec _ _).mono ?_
  rintro _ _ ⟨rfl, e⟩
  rw [e]
  refine ⟨_, rfl, ifF rfl ((room_spec _ _).mono ?_)⟩
  rintro _ _ ⟨rfl, e⟩
  rw [e]
  refine ⟨_, rfl, ifF rfl ((room_spec _ _).mono ?_)⟩
  rintro _ _ ⟨rfl, e⟩
  rw [e]
  refine ⟨_, rfl, ?_⟩
  unfold ref14_New_j0
  exact ifF rfl (newB fun ob H1 hob b1 k1 => fun H2 hs => ⟨ob, rfl, shutB b1 hs, shutK k1 hs⟩)
/-- The document's connection. -/
def ycL (st : Int) (ob : Option Addr) (now due : Int) : List Value := [.int .i64 st, .int .i64 5, .int .i64 6, .int .u32 7, .pointer ob, .pointer none, .bool false, .bool false, .bool false, .bool false, .int .i64 now, .int .i64 due]
theorem rwants_spec {yb : Nat} {l : List Value} (hb : Blk H yb T_ref15_Conn ⟨l⟩) (h5 : l[5]? = some (.pointer none)) : FnW Tryz.prog f_ref15_Conn_Wants ⟨[.pointer (some ⟨yb, 0, none⟩)]⟩ H fun v H' => v = .int .u32 0 ∧ H' = H := by
  refine ref15_Conn_Wants_sh yb ?_
  unfold ref15_Conn_Wants_p
  exact ⟨_, cellL hb 5 h5, ifT rfl fun H2 hs => ⟨rfl, (shutE0 hs).symm⟩⟩
theorem rsegment_spec {yb : Nat} {at_ : Nat} {fl st : Int} {ob : Option Addr} {now due : Int} (hb : Blk H yb T_ref15_Conn ⟨ycL st ob now due⟩) (hat : at_ < 4294967296) : FnW Tryz.prog f_ref15_Conn_segment ⟨[.pointer (some ⟨yb, 0, none⟩), .int .u32 at_, .int .i64 fl, .slice none 0 0]⟩ H fun v H' =>
    v = .agg ⟨sgL ⟨5, 6, at_, 0, fl, 4096, 0, 0, []⟩ none 0 0⟩ ∧ Keep Nil H H' := by
  refine ref15_Conn_segment_sh yb at_ fl none 0 0 ?_
  unfold ref15_Conn_segment_p
  refine newB fun q H1 hq b1 k1 => ?_
  have hb1 := k1.blk hb id
  refine ⟨_, cellL hb1 5 rfl, ifF rfl ?_⟩
  unfold ref15_Conn_segment_j0
  obtain ⟨kp1, kp2⟩ := kept_one hb1.some
  refine ⟨[yb], kp1, List.mem_singleton.2 rfl, _, cellL hb1 1 rfl, List.mem_singleton.2 rfl, _, cellL hb1 2 rfl, (rwants_spec hb1 rfl).mono ?_⟩
  rintro _ _ ⟨rfl, e⟩
  rw [e]
  refine ⟨_, rfl, kp2, st9 (s := ⟨5, 6, at_, 0, fl, 4096, 0, 0, []⟩) b1 fun H2 b2 k2 => ld9 b2 fun H3 hs => ⟨rfl, shutK (k1.then k2 fun y hy => .inr (hy ▸ hq)) hs⟩⟩
theorem rsyn_spec {yb : Nat} {ob : Option Addr} {now due : Int} (hb : Blk H yb T_ref15_Conn ⟨ycL 1 ob now due⟩) : FnW Tryz.prog f_ref15_Conn_syn ⟨[.pointer (some ⟨yb, 0, none⟩)]⟩ H fun v H' =>
    (∃ s, v = .agg ⟨sgL s none 0 0⟩) ∧ Keep Nil H H' := by
  refine ref15_Conn_syn_sh yb ?_
  unfold ref15_Conn_syn_p
  refine newB fun q H1 hq b1 k1 => ?_
  have hb1 := k1.blk hb id
  refine ⟨_, cellL hb1 3 rfl, (rsegment_spec (at_ := 7) hb1 (by omega)).mono ?_⟩
  rintro _ H2 ⟨rfl, k2⟩
  have hb2 := k2.blk hb1 id
  have q2 := k2.blk b1 id
  refine ⟨_, _, _, _, _, _, _, _, _, _, _, rfl, newB fun r H3 hr b3 k3 => st9 (s := ⟨5, 6, 7, 0, 2, 4096, 0, 0, []⟩) b3 fun H4 b4 k4 => stL b4 (by simp) rfl fun H5 b5 k5 => ?_⟩
  have kr : Keep (fun x => x = r) H3 H5 := k4.trans k5
  have hyr : yb ≠ r := fun e => hb2.some (e ▸ hr)
  have hqr : q ≠ r := fun e => q2.some (e ▸ hr)
  have hb5 := kr.blk (k3.blk hb2 id) hyr
  have q5 := kr.blk (k3.blk q2 id) hqr
  have k05 : Keep Nil H H5 := ((k1.trans k2).trans k3).then kr fun y hy => .inr (hy ▸ (k1.trans k2).free hr)
  refine ⟨_, cellL hb5 0 rfl, ifF rfl ?_⟩
  unfold ref15_Conn_syn_j0
  have b5' : Blk H5 r T_ref11_Segment ⟨sgL ⟨5, 6, 7, 0, 2, 4096, 0, 1460, []⟩ none 0 0⟩ := b5
  refine ld9 b5' (st9 (s := ⟨5, 6, 7, 0, 2, 4096, 0, 1460, []⟩) q5 fun H6 b6 k6 => ld9 b6 fun H7 hs => ⟨⟨_, rfl⟩, shutK (k05.then k6 fun y hy => .inr (hy ▸ hq)) hs⟩)
theorem rwait_spec {ob u : Nat} (hb : Blk H ob T_ref14_Outbox ⟨obR u⟩) : FnW Tryz.prog f_ref13_Estimate_Wait ⟨[.pointer (some ⟨ob, 7, none⟩)]⟩ H fun v H' => (∃ z, v = .int .i64 z) ∧ H' = H := by
  refine ref13_Estimate_Wait_sh ob 7 ?_
  unfold ref13_Estimate_Wait_p
  refine ⟨_, cellL hb 10 rfl, ifF rfl ?_⟩
  unfold ref13_Estimate_Wait_j0
  refine loopI (fun f s H' => s = (30, (0, ())) ∧ H' = H) 0 ⟨rfl, rfl⟩ ?_
  rintro f s H' ⟨rfl, e⟩ g
  rw [e]
  unfold ref13_Estimate_Wait_l5
  exact ⟨_, cellL hb 9 rfl, ifF rfl fun H2 hs => ⟨⟨_, rfl⟩, (shutE0 hs).symm⟩⟩
theorem rarm_spec {yb ob u : Nat} {now due : Int} (hb : Blk H yb T_ref15_Conn ⟨ycL 1 (some ⟨ob, 0, none⟩) now due⟩) (ho : Blk H ob T_ref14_Outbox ⟨obR u⟩) : FnW Tryz.prog f_ref15_Conn_arm ⟨[.pointer (some ⟨yb, 0, none⟩)]⟩ H fun v H' =>
    v = .tuple ⟨[]⟩ ∧ (∃ due', Blk H' yb T_ref15_Conn ⟨ycL 1 (some ⟨ob, 0, none⟩) now due'⟩) ∧ Keep (fun x => x = yb) H H' := by
  refine ref15_Conn_arm_sh yb ?_
  unfold ref15_Conn_arm_p
  have ho1 : FnW Tryz.prog f_ref15_Conn_open ⟨[.pointer (some ⟨yb, 0, none⟩)]⟩ H fun v H' => v = .bool true ∧ H' = H := by
    refine ref15_Conn_open_sh yb ?_
    unfold ref15_Conn_open_p
    exact ⟨_, cellL hb 0 rfl, ifT rfl fun H2 hs => ⟨rfl, (shutE0 hs).symm⟩⟩
  refine ⟨_, cellL hb 0 rfl, ifF rfl ⟨_, cellL hb 0 rfl, ifF rfl (ho1.mono ?_)⟩⟩
  rintro _ _ ⟨rfl, e⟩
  rw [e]
  refine ⟨_, rfl, ?_⟩
  unfold ref15_Conn_arm_j0
  obtain ⟨kp1, kp2⟩ := kept_one hb.some
  refine ifF rfl ⟨_, cellL hb 11 rfl, IfB.intro (fun _ => ⟨[yb], kp1, List.mem_singleton.2 rfl, _, cellL hb 10 rfl, _, cellL hb 4 rfl, NilP.intro _ rfl ((rwait_spec ho).mono ?_)⟩) fun _ => fun H2 hs => ⟨rfl, ⟨due, shutB hb hs⟩, shutKS (Keep.refl _ _) hs⟩⟩
  rintro _ _ ⟨⟨z, rfl⟩, e⟩
  rw [e]
  exact ⟨_, rfl, kp2, stL hb (by simp [ycL]) rfl fun H2 b2 k2 => fun H3 hs => ⟨rfl, ⟨_, shutB b2 hs⟩, shutKS k2 hs⟩⟩
theorem rdial_spec : FnW Tryz.prog f_ref15_Dial ⟨[.int .i64 0, .int .i64 5, .int .i64 6, .int .u32 7]⟩ H fun v H' =>
    ∃ yb ob u a c due, v = .tuple ⟨[.pointer (some ⟨yb, 0, none⟩), .slice a 1 c, .int .i64 0]⟩ ∧ u < 4294967296 ∧ Blk H' yb T_ref15_Conn ⟨ycL 1 (some ⟨ob, 0, none⟩) 0 due⟩ ∧ Blk H' ob T_ref14_Outbox ⟨obR u⟩ ∧ H yb = none ∧ Keep Nil H H' := by
  refine ref15_Dial_sh 0 5 6 7 ?_
  unfold ref15_Dial_p
  refine rport_spec.mono ?_
  rintro _ _ ⟨rfl, e⟩
  rw [e]
  refine ⟨_, rfl, ifF rfl (rport_spec.mono ?_)⟩
  rintro _ _ ⟨rfl, e⟩
  rw [e]
  refine ⟨_, rfl, ifF rfl ?_⟩
  unfold ref15_Dial_j0
  refine ifF rfl (newB fun yb H1 hyb b1 k1 => radd_spec.mono ?_)
  rintro _ _ ⟨⟨u, hu, rfl⟩, e⟩
  rw [e]
  refine ⟨_, rfl, rnew_spec.mono ?_⟩
  rintro _ H2 ⟨ob, rfl, bo, k2⟩
  have y2 := k2.blk b1 id
  have hne : ob ≠ yb := fun e => by rw [e] at bo; exact absurd (blk_ty bo y2) (by decide)
  refine ⟨_, _, rfl, stL y2 (by simp) rfl fun H3 b3 k3 => ?_⟩
  have y3 : Blk H3 yb T_ref15_Conn ⟨ycL 1 (some ⟨ob, 0, none⟩) 0 (-1)⟩ := b3
  have o3 := k3.blk bo hne
  refine (rsyn_spec y3).mono ?_
  rintro _ H4 ⟨⟨s, rfl⟩, k4⟩
  refine ⟨_, _, _, _, _, _, _, _, _, _, _, rfl, newB fun z H5 hz b5 k5 => ?_⟩
  have y5 := k5.blk (k4.blk y3 id) id
  have o5 := k5.blk (k4.blk o3 id) id
  refine (rarm_spec y5 o5).mono ?_
  rintro _ H6 ⟨rfl, ⟨due, y6⟩, k6⟩
  have o6 := k6.blk o5 hne
  have k03 : Keep Nil H H3 := (k1.trans k2).then k3 fun y hy => .inr (hy ▸ hyb)
  have k06 : Keep Nil H H6 := ((k03.trans k4).trans k5).then k6 fun y hy => .inr (hy ▸ hyb)
  exact ⟨rfl, fun H7 hs => ⟨yb, ob, u, _, _, due, rfl, hu, shutB y6 hs, shutB o6 hs, hyb, shutK k06 hs⟩⟩
theorem rabort_spec {yb : Nat} {ob : Option Addr} {due : Int} (hb : Blk H yb T_ref15_Conn ⟨ycL 1 ob 0 due⟩) : FnW Tryz.prog f_ref15_Conn_Abort ⟨[.pointer (some ⟨yb, 0, none⟩), .int .i64 0]⟩ H fun v H' =>
    (∃ a c e, v = .tuple ⟨[.slice a 0 c, .int .i64 e]⟩) ∧ Blk H' yb T_ref15_Conn ⟨ycL 0 ob 0 (-1)⟩ ∧ Keep (fun x => x = yb) H H' := by
  refine ref15_Conn_Abort_sh yb 0 ?_
  unfold ref15_Conn_Abort_p
  refine ⟨_, cellL hb 10 rfl, ifF rfl (stL hb (by simp [ycL]) rfl fun H1 b1 k1 => newB fun q H2 hq b2 k2 => ?_)⟩
  have b12 := k2.blk b1 id
  refine ⟨_, cellL b12 0 rfl, ifF rfl ?_⟩
  unfold ref15_Conn_Abort_j0
  refine ifF rfl ?_
  unfold ref15_Conn_Abort_j1
  refine ref15_Conn_die_sh yb ?_
  unfold ref15_Conn_die_p
  refine stL b12 (by simp [ycL]) rfl fun H3 b3 k3 => stL b3 (by simp [ycL]) rfl fun H4 b4 k4 => fun H5 hs => ⟨rfl, fun H6 hs2 => ⟨⟨_, _, _, rfl⟩, shutB (shutB b4 hs) hs2, ?_⟩⟩
  have k04 : Keep (fun x => x = yb) H H4 := ((k1.trans (k2.mono fun _ h => h.elim)).trans k3).trans k4
  have k05 : Keep (fun x => x = yb) H H5 := shutKS2 (k1.trans (k2.mono fun _ h => h.elim)) k04 hs
  exact shutKS k05 hs2
/-- A number is asked for by what the document's connection knows. -/
def YAt (H : Heap) (yb : Nat) : Prop := ∃ ob u due st now, Blk H yb T_ref15_Conn ⟨ycL st (some ⟨ob, 0, none⟩) now due⟩ ∧ ∃ l, Blk H ob T_ref14_Outbox ⟨l⟩ ∧ l[0]? = some (.int .u32 ((u : Nat) : Int))
theorem YAt.keep {yb : Nat} {S : Nat → Prop} (h : YAt H yb) (k : Keep S H H') (hs : ∀ y, S y → ∀ l, ¬ Blk H y T_ref15_Conn l ∧ ¬ Blk H y T_ref14_Outbox l) : YAt H' yb := by
  obtain ⟨ob, u, due, st, now, h1, l, h2, h3⟩ := h
  exact ⟨ob, u, due, st, now, k.blk h1 fun e => (hs _ e _).1 h1, l, k.blk h2 fun e => (hs _ e _).2 h2, h3⟩
abbrev actL (do_ t q : Int) (s : Sg) (da : Option Addr) (dn dc : Nat) (nr : Bool) (ba : Option Addr) (bn bc : Nat) : List Value :=
  [.int .i64 do_, .int .i64 t, .int .i64 q, .int .i64 s.src, .int .i64 s.dst, .int .u32 s.seq, .int .u32 s.ack, .int .i64 s.flags, .int .i64 s.win, .int .i64 s.urg, .int .i64 s.big, .slice da dn dc, .bool nr, .slice ba bn bc]
theorem near_spec {yb : Nat} (hy : YAt H yb) {do_ t q : Int} {s : Sg} {da : Option Addr} {dn dc : Nat} {nr : Bool} {ba : Option Addr} {bn bc : Nat} (hr : Reads H da dn (bv s.data)) (hc : dn ≤ dc) (hq : s.seq < 4294967296) (ha : s.ack < 4294967296) :
    FnW Tryz.prog f_law15_near ⟨[.pointer (some ⟨yb, 0, none⟩), .agg ⟨actL do_ t q s da dn dc nr ba bn bc⟩]⟩ H fun v H' => ∃ s' a' m c', v = .agg ⟨sgL s' a' m c'⟩ ∧ s'.seq < 4294967296 ∧ s'.ack < 4294967296 ∧ m = s'.data.length ∧ Sh.Own H H' a' m c' 1 T_uint8 (bv s'.data) ∧ Keep Nil H H' := by
  refine law15_near_s_sh yb do_ t q _ _ _ _ _ _ _ _ da dn dc nr ba bn bc ?_
  unfold law15_near_s_p
  refine newB fun ab H1 hab b1 k1 => newB fun xb H2 hxb b2 k2 => ?_
  have b12 := k2.blk b1 id
  have k02 := k1.trans k2
  refine ⟨_, cellL b12 3 rfl, _, cellL b12 4 rfl, _, cellL b12 5 rfl, _, cellL b12 6 rfl, _, cellL b12 7 rfl, _, cellL b12 8 rfl, _, cellL b12 9 rfl, _, cellL b12 10 rfl, _, _, _, cellL b12 11 rfl, ?_⟩
  refine (few_spec (s := s) (hr.keep k02 fun _ _ h => h) hc).mono ?_
  rintro _ H3 ⟨a', m, c', d, rfl, hd, rfl, o3, k3⟩
  have k03 := k02.trans k3
  have x3 := k3.blk b2 id
  have a3 := k3.blk b12 id
  obtain ⟨s1, hs1⟩ : ∃ s1 : Sg, s1 = { s with data := d } := ⟨_, rfl⟩
  have e1 : s1.seq = s.seq ∧ s1.ack = s.ack ∧ s1.data = d := by rw [hs1]; exact ⟨rfl, rfl, rfl⟩
  refine ⟨_, _, _, _, _, _, _, _, _, _, _, rfl, newB fun sb H4 hsb b4 k4 => st9 (s := s) b4 fun H5 b5 k5 => ?_⟩
  have k45 : Keep Nil H3 H5 := k4.then k5 fun y hy => .inr (hy ▸ hsb)
  have a5 := k45.blk a3 id
  have x5 := k45.blk x3 id
  have hxs : xb ≠ sb := fun e => x3.some (e ▸ hsb)
  -- the end
  have fin : ∀ (H6 : Heap) (s' : Sg), Keep (fun x => x = sb) H5 H6 → Blk H6 sb T_seg_Segment ⟨sgL s' a' d.length c'⟩ → s'.seq < 4294967296 → s'.ack < 4294967296 → s'.data = d → law15_near_s_j0 xb sb H6 fun v H1 => ∀ H2, Shut H H1 H2 → ∃ s' a' m c', v = .agg ⟨sgL s' a' m c'⟩ ∧ s'.seq < 4294967296 ∧ s'.ack < 4294967296 ∧ m = s'.data.length ∧ Sh.Own H H2 a' m c' 1 T_uint8 (bv s'.data) ∧ Keep Nil H H2 := by
    intro H6 s' k6 b6 h1 h2 h3
    unfold law15_near_s_j0
    have x6 := k6.blk x5 hxs
    have k46 : Keep Nil H3 H6 := k45.then k6 fun y hy => .inr (hy ▸ hsb)
    refine ld9 b6 (st9 (s := s') x6 fun H7 b7 k7 => ld9 b7 fun H8 hs => ⟨s', a', _, c', rfl, h1, h2, by rw [h3], ?_, shutK ((k03.trans k46).then k7 fun y hy => .inr (hy ▸ k1.free hxb)) hs⟩)
    rw [h3]
    refine shutO (((o3.keep k46 fun _ _ h => h).keep k7 fun y hy e => ?_).mono k02) hs
    have := o3.free hy
    rw [e] at this
    exact b2.some this
  refine ⟨_, cellL a5 12 rfl, IfB.intro (fun _ => ?_) fun _ => ?_⟩
  · have hbs : ∃ o, H5 sb = some o := ⟨_, b5⟩
    have y5 : YAt H5 yb := hy.keep (k03.trans k45) fun _ h => h.elim
    have y5c := y5
    obtain ⟨ob, u, due, st, now, hyb, l, ho, hu⟩ := y5
    refine ⟨[sb], fun y hy => by rw [List.mem_singleton.1 hy]; exact hbs, List.mem_singleton.2 rfl, _, cellL b5 2 rfl, (rwants_spec hyb rfl).mono ?_⟩
    rintro _ _ ⟨rfl, e⟩
    rw [e]
    refine ⟨_, rfl, fun y hy => by rw [List.mem_singleton.1 hy]; exact ⟨hbs, rfl⟩, stL b5 (by simp) rfl fun H6 b6 k6 => ?_⟩
    have nsy : sb ≠ yb := fun e => by rw [e] at b5; exact absurd (blk_ty b5 hyb) (by decide)
    have nso : sb ≠ ob := fun e => by rw [e] at b5; exact absurd (blk_ty b5 ho) (by decide)
    have y6 := k6.blk hyb fun e => nsy e.symm
    have o6 := k6.blk ho fun e => nso e.symm
    refine ⟨_, cellL b6 3 rfl, _, cellL y6 4 rfl, NilP.intro _ rfl ⟨_, cellL o6 0 hu, stL b6 (by simp) rfl fun H7 b7 k7 => ?_⟩⟩
    obtain ⟨m1, h1, e1'⟩ := wrapN ((s.seq : Int) + 0)
    obtain ⟨m2, h2, e2'⟩ := wrapN ((s.ack : Int) + (u : Int))
    refine fin H7 { s with seq := m1, ack := m2, data := d } (k6.trans k7) ?_ h1 h2 rfl
    have b7' : Blk H7 sb T_seg_Segment ⟨[.int .i64 s.src, .int .i64 s.dst, .int .u32 (IntKind.wrap .u32 ((s.seq : Int) + 0)), .int .u32 (IntKind.wrap .u32 ((s.ack : Int) + (u : Int))), .int .i64 s.flags, .int .i64 s.win, .int .i64 s.urg, .int .i64 s.big, .slice a' d.length c']⟩ := b7
    rw [e1', e2'] at b7'
    exact b7'
  · exact fin H5 s1 (Keep.refl _ _) (by rw [hs1]; exact b5) (by rw [e1.1]; exact hq) (by rw [e1.2.1]; exact ha) e1.2.2
end
end Go.Proofs.YtmiepjlnfclelaaGreat
end

section
set_option linter.all false
set_option maxRecDepth 100000
namespace Go.Proofs.YtmiepjlnfclelaaGreat
open Go.Sh Go.Pc Go.Conn
/-- A connection that is closed, and never heard anything. -/
def Sil (H : Heap) (cb : Nat) (F : Nat → Prop) : Prop := ∃ p c now, CRep H cb p c now (-1) none 0 0 ∧ c.st = 0 ∧ c.inn = none ∧ p.F cb = F
section
variable {H0 H H' : Heap} {cb : Nat} {F : Nat → Prop} {t : Int}
theorem Sil.mem (h : Sil H cb F) : F cb := by obtain ⟨p, c, now, _, _, _, rfl⟩ := h; exact .inl rfl
theorem Sil.nil (h : Sil H cb F) (k : Keep Nil H H') : Sil H' cb F := by
  obtain ⟨p, c, now, hr, h1, h2, h3⟩ := h
  exact ⟨p, c, now, hr.keep k fun _ _ h => h, h1, h2, h3⟩
theorem Sil.shut {H1 : Heap} (h : Sil H cb F) (hs : Shut H1 H H') : Sil H' cb F := by
  obtain ⟨p, c, now, hr, h1, h2, h3⟩ := h
  exact ⟨p, c, now, hr.shut hs, h1, h2, h3⟩
theorem sil_ip {p : CP} {c : Cn} {now : Int} (hr : CRep H cb p c now (-1) none 0 0) (hi : c.inn = none) : p.ip = none := by
  have h := hr.inn
  rw [hi] at h
  unfold CP.ip
  cases hj : p.jp with
  | none => rfl
  | some q => rw [hj] at h; exact h.elim
/-- The clock is set. -/
theorem sil_at {p : CP} {c : Cn} {now : Int} (hr : CRep H cb p c now (-1) none 0 0) (ht : now ≤ t) {K : Heap → Prop} (hk : ∀ H', CRep H' cb p c t (-1) none 0 0 → Keep (fun x => x = cb) H H' → K H') : StCell H ⟨cb, 10, none⟩ (.int .i64 t) K :=
  stL hr.blk (by simp [cnL]) rfl fun H1 b1 k1 => hk H1 (hr.put k1 b1 hr.ok rfl rfl (Int.le_trans hr.le ht)) k1
theorem may_any {p : CP} {c : Cn} {now due : Int} {ga : Option Addr} {gn gc : Nat} (h : CRep H cb p c now due ga gn gc) : FnW Tryz.prog f_conn_Conn_may ⟨[.pointer (some ⟨cb, 0, none⟩), .int .i64 t]⟩ H fun v H' => ((t < now ∧ v = .int .i64 2) ∨ (now ≤ t ∧ v = .int .i64 0)) ∧ H' = H := by
  refine conn_Conn_may_sh cb t ?_
  unfold conn_Conn_may_p
  refine (cn_is h).mono ?_
  rintro _ _ ⟨rfl, e⟩
  rw [e]
  refine ⟨true, rfl, ifF rfl ⟨_, cellL h.blk 10 rfl, IfB.intro (fun e H2 hs => ⟨.inl ⟨of_decide_eq_true e, rfl⟩, (shutE0 hs).symm⟩) fun e H2 hs => ⟨.inr ⟨by have := of_decide_eq_false e; omega, rfl⟩, (shutE0 hs).symm⟩⟩⟩
theorem sil_take (h : Sil H cb F) {s : Sg} {a : Option Addr} {n cp : Nat} (hr : Reads H a n (bv s.data)) : FnW Tryz.prog f_conn_Conn_Take ⟨[.pointer (some ⟨cb, 0, none⟩), .int .i64 t, .agg ⟨sgL s a n cp⟩]⟩ H fun v H' =>
    (∃ e : Int, v = .tuple ⟨[.slice none 0 0, .int .i64 e]⟩ ∧ e ≠ 0) ∧ Sil H' cb F ∧ Keep (fun x => x = cb) H H' := by
  have hS := h
  obtain ⟨p, c, now, hr0, h1, h2, h3⟩ := h
  refine conn_Conn_Take_sh cb t _ _ _ _ _ _ _ _ a n cp ?_
  unfold conn_Conn_Take_p
  refine newB fun q H1 hq b1 k1 => ?_
  have r1 := hr0.keep k1 fun _ _ h => h
  have fin : ∀ (H2 : Heap) (e : Int), e ≠ 0 → Keep Nil H H2 → ∀ H3, Shut H H2 H3 → (∃ e' : Int, Value.tuple ⟨[.slice none 0 0, .int .i64 e]⟩ = .tuple ⟨[.slice none 0 0, .int .i64 e']⟩ ∧ e' ≠ 0) ∧ Sil H3 cb F ∧ Keep (fun x => x = cb) H H3 := fun H2 e he k H3 hs => ⟨⟨e, rfl, he⟩, (hS.nil k).shut hs, (shutK k hs).mono fun _ h => h.elim⟩
  refine (may_any r1).mono ?_
  rintro v _ ⟨(⟨_, rfl⟩ | ⟨_, rfl⟩), e⟩
  · rw [e]
    exact ⟨_, rfl, ifT rfl (fin H1 2 (by decide) k1)⟩
  · rw [e]
    refine ⟨_, rfl, ifF rfl (ld9 b1 ((can_spec (hr.keep k1 fun _ _ h => h)).mono ?_))⟩
    rintro _ H2 ⟨rfl, k2⟩
    refine ⟨_, rfl, IfB.intro (fun _ => fin H2 2 (by decide) (k1.trans k2)) fun _ => ⟨_, cellL (r1.keep k2 fun _ _ h => h).blk 0 rfl, ifT (by rw [h1]; rfl) (fin H2 150 (by decide) (k1.trans k2))⟩⟩
theorem sil_tick (h : Sil H cb F) : FnW Tryz.prog f_conn_Conn_Tick ⟨[.pointer (some ⟨cb, 0, none⟩), .int .i64 t]⟩ H fun v H' =>
    (∃ e : Int, v = .tuple ⟨[.slice none 0 0, .int .i64 e]⟩) ∧ Sil H' cb F ∧ Keep (fun x => x = cb) H H' := by
  have hS := h
  obtain ⟨p, c, now, hr0, h1, h2, h3⟩ := h
  refine conn_Conn_Tick_sh cb t ?_
  unfold conn_Conn_Tick_p
  refine (may_any hr0).mono ?_
  rintro v _ ⟨(⟨_, rfl⟩ | ⟨ht, rfl⟩), e⟩
  · rw [e]
    exact ⟨_, rfl, ifT rfl fun H2 hs => ⟨⟨_, rfl⟩, hS.shut hs, shutKS (Keep.refl _ _) hs⟩⟩
  · rw [e]
    refine ⟨_, rfl, ifF rfl (sil_at hr0 ht fun H1 r1 k1 => ⟨_, cellL r1.blk 11 rfl, ifT rfl ?_⟩)⟩
    unfold conn_Conn_Tick_j0
    exact ifT rfl fun H2 hs => ⟨⟨_, rfl⟩, Sil.shut ⟨p, c, t, r1, h1, h2, h3⟩ hs, shutKS k1 hs⟩
theorem sil_write (h : Sil H cb F) {a : Option Addr} {n cp : Nat} : FnW Tryz.prog f_conn_Conn_Write ⟨[.pointer (some ⟨cb, 0, none⟩), .int .i64 t, .slice a n cp]⟩ H fun v H' =>
    (∃ e : Int, v = .tuple ⟨[.int .i64 0, .slice none 0 0, .int .i64 e]⟩ ∧ e ≠ 0) ∧ Sil H' cb F ∧ Keep (fun x => x = cb) H H' := by
  have hS := h
  obtain ⟨p, c, now, hr0, h1, h2, h3⟩ := h
  refine conn_Conn_Write_sh cb t a n cp ?_
  unfold conn_Conn_Write_p
  refine (may_any hr0).mono ?_
  rintro v _ ⟨(⟨_, rfl⟩ | ⟨ht, rfl⟩), e⟩
  · rw [e]
    exact ⟨_, rfl, ifT rfl fun H2 hs => ⟨⟨_, rfl, by decide⟩, hS.shut hs, shutKS (Keep.refl _ _) hs⟩⟩
  · rw [e]
    refine ⟨_, rfl, ifF rfl ⟨_, cellL hr0.blk 0 rfl, ifT (by rw [h1]; rfl) ⟨_, cellL hr0.blk 0 rfl, ?_⟩⟩⟩
    unfold conn_Conn_Write_j0
    exact ifT (by rw [h1]; rfl) fun H2 hs => ⟨⟨_, rfl, by decide⟩, hS.shut hs, shutKS (Keep.refl _ _) hs⟩
theorem sil_read (h : Sil H cb F) {n : Int} : FnW Tryz.prog f_conn_Conn_Read ⟨[.pointer (some ⟨cb, 0, none⟩), .int .i64 t, .int .i64 n]⟩ H fun v H' =>
    (∃ e : Int, v = .tuple ⟨[.slice none 0 0, .slice none 0 0, .int .i64 e]⟩) ∧ Sil H' cb F ∧ Keep (fun x => x = cb) H H' := by
  have hS := h
  obtain ⟨p, c, now, hr0, h1, h2, h3⟩ := h
  refine conn_Conn_Read_sh cb t n ?_
  unfold conn_Conn_Read_p
  refine (may_any hr0).mono ?_
  rintro v _ ⟨(⟨_, rfl⟩ | ⟨ht, rfl⟩), e⟩
  · rw [e]
    exact ⟨_, rfl, ifT rfl fun H2 hs => ⟨⟨_, rfl⟩, hS.shut hs, shutKS (Keep.refl _ _) hs⟩⟩
  · rw [e]
    refine ⟨_, rfl, ifF rfl (IfB.intro (fun _ H2 hs => ⟨⟨_, rfl⟩, hS.shut hs, shutKS (Keep.refl _ _) hs⟩) fun _ => sil_at hr0 ht fun H1 r1 k1 => ⟨_, cellL r1.blk 5 rfl, ?_⟩)⟩
    exact ifT (by rw [sil_ip hr0 h2]; rfl) fun H2 hs => ⟨⟨_, rfl⟩, Sil.shut ⟨p, c, t, r1, h1, h2, h3⟩ hs, shutKS k1 hs⟩
theorem sil_shut (h : Sil H cb F) : FnW Tryz.prog f_conn_Conn_Shut ⟨[.pointer (some ⟨cb, 0, none⟩), .int .i64 t]⟩ H fun v H' =>
    (∃ e : Int, v = .tuple ⟨[.slice none 0 0, .int .i64 e]⟩ ∧ e ≠ 0) ∧ Sil H' cb F ∧ Keep (fun x => x = cb) H H' := by
  have hS := h
  obtain ⟨p, c, now, hr0, h1, h2, h3⟩ := h
  refine conn_Conn_Shut_sh cb t ?_
  unfold conn_Conn_Shut_p
  refine (may_any hr0).mono ?_
  rintro v _ ⟨(⟨_, rfl⟩ | ⟨ht, rfl⟩), e⟩
  · rw [e]
    exact ⟨_, rfl, ifT rfl fun H2 hs => ⟨⟨_, rfl, by decide⟩, hS.shut hs, shutKS (Keep.refl _ _) hs⟩⟩
  · rw [e]
    exact ⟨_, rfl, ifF rfl ⟨_, cellL hr0.blk 0 rfl, ifF (by rw [h1]; rfl) (ifF (by rw [h1]; rfl) fun H2 hs => ⟨⟨_, rfl, by decide⟩, hS.shut hs, shutKS (Keep.refl _ _) hs⟩)⟩⟩
/-- A connection that never heard anything is broken off. -/
theorem abort_any {p : CP} {c : Cn} {now due : Int} (hr0 : CRep H cb p c now due none 0 0) (hst : c.st ≤ 1) (hi : c.inn = none) (hd : t < now → c.st = 0 ∧ due = -1) : FnW Tryz.prog f_conn_Conn_Abort ⟨[.pointer (some ⟨cb, 0, none⟩), .int .i64 t]⟩ H fun v H' =>
    (∃ e : Int, v = .tuple ⟨[.slice none 0 0, .int .i64 e]⟩) ∧ Sil H' cb (p.F cb) ∧ Keep (fun x => x = cb) H H' := by
  refine conn_Conn_Abort_sh cb t ?_
  unfold conn_Conn_Abort_p
  refine (may_any hr0).mono ?_
  rintro v _ ⟨(⟨hlt, rfl⟩ | ⟨ht, rfl⟩), e⟩
  · rw [e]
    obtain ⟨h1, rfl⟩ := hd hlt
    exact ⟨_, rfl, ifT rfl fun H2 hs => ⟨⟨_, rfl⟩, Sil.shut ⟨p, c, now, hr0, h1, hi, rfl⟩ hs, shutKS (Keep.refl _ _) hs⟩⟩
  · rw [e]
    refine ⟨_, rfl, ifF rfl (stL hr0.blk (by simp [cnL]) rfl fun H1 b1 k1 => ⟨_, cellL b1 0 rfl, ifF (decide_eq_false (by omega)) ?_⟩)⟩
    have r1 := hr0.put (now' := t) k1 b1 hr0.ok rfl rfl (Int.le_trans hr0.le ht)
    unfold conn_Conn_Abort_j0
    refine ifF rfl ?_
    unfold conn_Conn_Abort_j1
    refine conn_Conn_die_sh cb ?_
    unfold conn_Conn_die_p
    refine stL r1.blk (by simp [cnL]) rfl fun H2 b2 k2 => fun H3 hs => ⟨rfl, ?_⟩
    have r2 := (r1.put (c' := { c with st := 0 }) (now' := t) k2 b2 (dead_ok r1.ok) rfl rfl r1.le).shut hs
    have k3 : Keep (fun x => x = cb) H H3 := shutKS2 k1 (k1.trans k2) hs
    refine conn_Conn_done_sh cb ?_
    unfold conn_Conn_done_p
    refine ⟨_, cellL r2.blk 0 rfl, ifF rfl ⟨_, cellL r2.blk 0 rfl, ifT rfl ?_⟩⟩
    unfold conn_Conn_done_j1
    refine ifT rfl (stL r2.blk (by simp [cnL]) rfl fun H4 b4 k4 => ?_)
    have r4 := r2.put (due' := -1) k4 b4 r2.ok rfl rfl r2.le
    unfold conn_Conn_done_j0
    refine ⟨_, _, _, cellL r4.blk 12 rfl, stL r4.blk (by simp [cnL]) rfl fun H5 b5 k5 => fun H6 hs6 => ⟨_, _, _, rfl, fun H7 hs7 => ⟨⟨_, rfl⟩, ?_, ?_⟩⟩⟩
    · exact ⟨p, _, t, ((r4.put k5 b5 r4.ok rfl rfl r4.le).shut hs6).shut hs7, rfl, hi, rfl⟩
    · exact shutKS (shutKS2 k3 ((k3.trans k4).trans k5) hs6) hs7
theorem sil_abort (h : Sil H cb F) : FnW Tryz.prog f_conn_Conn_Abort ⟨[.pointer (some ⟨cb, 0, none⟩), .int .i64 t]⟩ H fun v H' =>
    (∃ e : Int, v = .tuple ⟨[.slice none 0 0, .int .i64 e]⟩) ∧ Sil H' cb F ∧ Keep (fun x => x = cb) H H' := by
  obtain ⟨p, c, now, hr0, h1, h2, rfl⟩ := h
  exact abort_any hr0 (by omega) h2 fun _ => ⟨h1, rfl⟩
theorem sil_due (h : Sil H cb F) : FnW Tryz.prog f_conn_Conn_Due ⟨[.pointer (some ⟨cb, 0, none⟩)]⟩ H fun v H' => v = .tuple ⟨[.int .i64 0, .bool false]⟩ ∧ H' = H := by
  obtain ⟨p, c, now, hr0, h1, h2, h3⟩ := h
  refine conn_Conn_Due_sh cb ?_
  unfold conn_Conn_Due_p
  refine (cn_is hr0).mono ?_
  rintro _ _ ⟨rfl, e⟩
  rw [e]
  refine ⟨true, rfl, ifF rfl ⟨_, cellL hr0.blk 11 rfl, ?_⟩⟩
  unfold conn_Conn_Due_j0
  exact ifT rfl fun H2 hs => ⟨rfl, (shutE0 hs).symm⟩
/-- An act, as it is handed in. -/
def IsAct (H : Heap) (b o : Nat) : Prop := ∃ do_ t q s da dn dc nr ba bn bc, (∀ i, i < 14 → H.cell ⟨b, o + i, none⟩ = (actL do_ t q s da dn dc nr ba bn bc)[i]?) ∧ Reads H da dn (bv s.data) ∧ dn ≤ dc ∧ s.seq < 4294967296 ∧ s.ack < 4294967296
def IsActs (H : Heap) (a : Option Addr) (n : Nat) : Prop := ∀ i, i < n → ∃ b o, a = some ⟨b, o, none⟩ ∧ IsAct H b (o + i * 14)
theorem silent_spec {ta : Option Addr} {tn tc : Nat} (hta : IsActs H ta tn) : FnW Tryz.prog f_law15_ConnSilent ⟨[.slice ta tn tc]⟩ H fun v H' => v = .bool true ∧ Keep Nil H H' := by
  refine law15_ConnSilent_sh ta tn tc ?_
  unfold law15_ConnSilent_p
  refine works_spec.mono ?_
  rintro _ H1 ⟨rfl, k1⟩
  refine ⟨_, rfl, ifF rfl ((dial_spec (now := 0) (src := 5) (dst := 6) (first := 7) (by omega) (by omega) rfl rfl).mono ?_)⟩
  rintro _ H2 ⟨cb, u0, rfl, hl⟩
  obtain ⟨p, now', due, ga, gc, xs, rfl, hx, hn, hr, hd, kk, hsub, ho⟩ := hl.ex
  refine ⟨_, _, _, _, _, rfl, rdial_spec.mono ?_⟩
  rintro _ H3 ⟨yb, ob, u, ra, rc, ydue, rfl, hu, hyb, hob, hynew, k3⟩
  have hr3 := hr.keep k3 fun _ _ h => h
  have hst : (dial 5 6 7).2.st ≤ 1 := Nat.le_refl 1
  refine ⟨_, _, _, _, _, rfl, (abort_any (t := 0) hr3 hst rfl fun h => absurd h (by omega)).mono ?_⟩
  rintro _ H4 ⟨⟨e4, rfl⟩, h4, k4⟩
  have hcy : ¬ yb = cb := fun e => by
    rw [e] at hyb
    exact absurd (blk_ty hyb hr3.blk) (by decide)
  have hco : ¬ ob = cb := fun e => by
    rw [e] at hob
    exact absurd (blk_ty hob hr3.blk) (by decide)
  have y4 := k4.blk hyb hcy
  have o4 := k4.blk hob hco
  refine ⟨_, _, _, _, rfl, (rabort_spec y4).mono ?_⟩
  rintro _ H5 ⟨⟨a5, c5, e5, rfl⟩, y5, k5⟩
  have hoy : ¬ ob = yb := fun e => by rw [e] at o4; exact absurd (blk_ty o4 y4) (by decide)
  have o5 := k5.blk o4 hoy
  have hYA : YAt H5 yb := ⟨ob, u, -1, 0, 0, y5, _, o5, rfl⟩
  have hpF : ∀ y, p.F cb y → H1 y = none := fun y hy => (hsub y hy).elim (fun z => z.elim) id
  have hyF : ¬ p.F cb yb := fun e => hr.live e hynew
  have h5 : Sil H5 cb (p.F cb) := by
    obtain ⟨p', c', n', r', q1, q2, q3⟩ := h4
    exact ⟨p', c', n', r'.keep k5 (fun y hy e => hyF (by rw [← q3]; exact e ▸ hy)), q1, q2, q3⟩
  have k03 : Keep Nil H H3 := (k1.trans kk).trans k3
  have k05 : Keep Nil H H5 := (k03.then k4 fun y hy => .inr (hy ▸ k1.free (hpF cb (.inl rfl)))).then k5 fun y hy => .inr (hy ▸ (k1.trans kk).free hynew)
  have hcb0 : H cb = none := k1.free (hpF cb (.inl rfl))
  refine ⟨_, _, _, _, rfl, loopI (fun f s H' => ∃ i : Nat, s = ((i : Int), ()) ∧ i ≤ 40 ∧ f = 40 - i ∧ Sil H' cb (p.F cb) ∧ YAt H' yb ∧ Keep Nil H H') 40 ⟨0, rfl, by omega, rfl, h5, hYA, k05⟩ ?_⟩
  rintro f s H6 ⟨i, rfl, hi, rfl, h6, y6, k6⟩ gg
  unfold law15_ConnSilent_l8
  dsimp only
  have fin : ∀ H7, Shut H H6 H7 → Value.bool true = .bool true ∧ Keep Nil H H7 := fun H7 hs => ⟨rfl, shutK k6 hs⟩
  unfold law15_ConnSilent_j0
  refine IfB.intro (fun hlt => IfB.intro (fun h40 => ?_) fun _ => fin) fun _ => ifF rfl fin
  have hlt : i < tn := by have := of_decide_eq_true hlt; omega
  have h40 : i < 40 := by have := of_decide_eq_true h40; omega
  obtain ⟨q, o, rfl, do_, t, nn, sg, da, dn, dc, nr, ba, bn, bc, hcell, hD, hdc, hq, hak⟩ := hta i hlt
  refine NilP.intro _ rfl (InB.intro i rfl hlt ?_)
  rw [elemAt_none]
  have cell6 : ∀ j, j < 14 → H6.cell ⟨q, o + i * 14 + j, none⟩ = (actL do_ t nn sg da dn dc nr ba bn bc)[j]? := fun j hj => by
    have hc := hcell j hj
    obtain ⟨v, hv⟩ : ∃ v, (actL do_ t nn sg da dn dc nr ba bn bc)[j]? = some v := ⟨_, List.getElem?_eq_getElem (by show j < 14; exact hj)⟩
    rw [hv] at hc ⊢
    have hne : H q ≠ none := fun e => by
      unfold Heap.cell at hc
      simp only [e] at hc
      cases hc
    unfold Heap.cell at hc ⊢
    rw [k6.same q id hne]
    exact hc
  refine ⟨_, cell6 0 (by omega), _, cell6 1 (by omega), _, cell6 2 (by omega), _, cell6 3 (by omega), _, cell6 4 (by omega), _, cell6 5 (by omega), _, cell6 6 (by omega), _, cell6 7 (by omega), _, cell6 8 (by omega), _, cell6 9 (by omega), _, cell6 10 (by omega), _, _, _, cell6 11 (by omega), _, cell6 12 (by omega), _, _, _, cell6 13 (by omega), newB fun ab H7 hab b7 k7 => ?_⟩
  refine stL b7 (by simp) rfl fun G0 g0 j0 => stL g0 (by simp) rfl fun G1 g1 j1 => stL g1 (by simp) rfl fun G2 g2 j2 => stL g2 (by simp) rfl fun G3 g3 j3 => stL g3 (by simp) rfl fun G4 g4 j4 => stL g4 (by simp) rfl fun G5 g5 j5 => stL g5 (by simp) rfl fun G6 g6 j6 => stL g6 (by simp) rfl fun G7 g7 j7 => stL g7 (by simp) rfl fun G8 g8 j8 => stL g8 (by simp) rfl fun G9 g9 j9 => stL g9 (by simp) rfl fun G10 g10 j10 => stL g10 (by simp) rfl fun G11 g11 j11 => stL g11 (by simp) rfl fun G12 g12 j12 => stL g12 (by simp) rfl fun G g j13 => ?_
  have kab : Keep (fun x => x = ab) H7 G := (((((((((((((j0.trans j1).trans j2).trans j3).trans j4).trans j5).trans j6).trans j7).trans j8).trans j9).trans j10).trans j11).trans j12).trans j13)
  have kG : Keep Nil H6 G := k7.then kab fun y hy => .inr (hy ▸ hab)
  have gA : Blk G ab T_law15_Act ⟨actL do_ t nn sg da dn dc nr ba bn bc⟩ := g
  have k0G := k6.trans kG
  refine ⟨_, cellL gA 0 rfl, _, cellL gA 1 rfl, _, cellL gA 2 rfl, _, cellL gA 3 rfl, _, cellL gA 4 rfl, _, cellL gA 5 rfl, _, cellL gA 6 rfl, _, cellL gA 7 rfl, _, cellL gA 8 rfl, _, cellL gA 9 rfl, _, cellL gA 10 rfl, _, _, _, cellL gA 11 rfl, _, cellL gA 12 rfl, _, _, _, cellL gA 13 rfl, ?_⟩
  refine (near_spec (y6.keep kG fun _ h => h.elim) (hD.keep k0G fun _ _ h => h) hdc hq hak).mono ?_
  rintro _ H8 ⟨s', a', m', c', rfl, hq', hk', rfl, o8, k8⟩
  refine ⟨_, _, _, _, _, _, _, _, _, _, _, rfl, newB fun sb H9 hsb b9 k9 => st9 (s := s') b9 fun H10 b10 k10 => ?_⟩
  have kN : Keep Nil G H10 := (k8.trans k9).then k10 fun y hy => .inr (hy ▸ k8.free hsb)
  have k6N := kG.trans kN
  have a10 := kN.blk gA id
  have s10 := h6.nil k6N
  have y10 := y6.keep k6N fun _ h => h.elim
  have hab6 : ¬ ab = cb := fun e => by
    obtain ⟨_, _, _, hr6, _⟩ := h6
    exact hr6.blk.some (e ▸ hab)
  have r10 : Reads H10 a' s'.data.length (bv s'.data) := by
    have := ((o8.keep k9 fun _ _ h => h).keep k10 fun y hy e => ?_).reads
    · rwa [Nat.mul_one] at this
    · obtain ⟨c, hc⟩ := o8.live hy
      exact hc.some (e ▸ hsb)
  -- what does not turn
  have step : ∀ {Ha Hb : Heap}, Keep (fun x => x = cb) Ha Hb → (Blk Ha ab T_law15_Act ⟨actL do_ t nn sg da dn dc nr ba bn bc⟩ ∧ YAt Ha yb ∧ Keep Nil H Ha ∧ Sil Ha cb (p.F cb)) → Sil Hb cb (p.F cb) → (Blk Hb ab T_law15_Act ⟨actL do_ t nn sg da dn dc nr ba bn bc⟩ ∧ YAt Hb yb ∧ Keep Nil H Hb ∧ Sil Hb cb (p.F cb)) := by
    intro Ha Hb k ⟨q1, q2, q3, q4⟩ hS
    refine ⟨k.blk q1 hab6, q2.keep k fun y e l => ?_, q3.then k fun y e => .inr (e ▸ hcb0), hS⟩
    obtain ⟨_, _, _, hra, _⟩ := q4
    exact ⟨fun z => absurd (blk_ty z (e ▸ hra.blk)) (by decide), fun z => absurd (blk_ty z (e ▸ hra.blk)) (by decide)⟩
  have J0 := And.intro a10 (And.intro y10 (And.intro (k6.trans k6N) s10))
  refine ⟨_, cellL a10 1 rfl, ld9 b10 ((sil_take s10 r10).mono ?_)⟩
  rintro _ A1 ⟨⟨z1, rfl, n1⟩, S1, K1⟩
  have J1 := step K1 J0 S1
  refine ⟨_, _, _, _, rfl, _, cellL J1.1 1 rfl, (sil_tick S1).mono ?_⟩
  rintro _ A2 ⟨⟨z2, rfl⟩, S2, K2⟩
  have J2 := step K2 J1 S2
  refine ⟨_, _, _, _, rfl, _, cellL J2.1 1 rfl, _, _, _, cellL J2.1 13 rfl, (sil_write S2).mono ?_⟩
  rintro _ A3 ⟨⟨z3, rfl, n3⟩, S3, K3⟩
  have J3 := step K3 J2 S3
  refine ⟨_, _, _, _, _, rfl, _, cellL J3.1 1 rfl, _, cellL J3.1 2 rfl, (sil_read S3).mono ?_⟩
  rintro _ A4 ⟨⟨z4, rfl⟩, S4, K4⟩
  have J4 := step K4 J3 S4
  refine ⟨_, _, _, _, _, _, _, rfl, _, cellL J4.1 1 rfl, (sil_shut S4).mono ?_⟩
  rintro _ A5 ⟨⟨z5, rfl, n5⟩, S5, K5⟩
  have J5 := step K5 J4 S5
  refine ⟨_, _, _, _, rfl, _, cellL J5.1 1 rfl, (sil_abort S5).mono ?_⟩
  rintro _ A6 ⟨⟨z6, rfl⟩, S6, K6⟩
  have J6 := step K6 J5 S6
  refine ⟨_, _, _, _, rfl, ifF rfl (ifF (beq_eq_false_iff_ne.2 n1) (ifF (beq_eq_false_iff_ne.2 n3) (ifF (beq_eq_false_iff_ne.2 n5) ?_)))⟩
  obtain ⟨p6, c6, n6, r6, st6, i6, f6⟩ := S6
  refine (State_spec r6).mono ?_
  rintro _ _ ⟨rfl, e⟩
  rw [e]
  refine ⟨_, rfl, ?_⟩
  unfold law15_ConnSilent_j1
  refine ifF (by rw [st6]; rfl) ((sil_due ⟨p6, c6, n6, r6, st6, i6, f6⟩).mono ?_)
  rintro _ _ ⟨rfl, e⟩
  rw [e]
  have hw1 : IntKind.wrap .i64 ((i : Int) + 1) = ((i + 1 : Nat) : Int) := by rw [wrap_id (by omega) (by omega)]; omega
  rw [hw1]
  exact ⟨_, _, rfl, ifF rfl ⟨40 - (i + 1), by omega, i + 1, rfl, by omega, rfl, ⟨p6, c6, n6, r6, st6, i6, f6⟩, J6.2.1, J6.2.2.1⟩⟩
end
end Go.Proofs.YtmiepjlnfclelaaGreat
end

section
set_option linter.all false
set_option maxRecDepth 100000
namespace Go.Proofs.YtmiepjlnfclelaaGreat
open Go.Sh Go.Pc Go.Conn Go.ChangeShapes Go.WideShapes Go.ChangeAt Go.RowKit
theorem und_acts : Tryz.prog.underlying T_sl_pointsmanlaw15_Act = some (.slice T_law15_Act) := by kernel_rfl
theorem und_act : Tryz.prog.underlying T_law15_Act = some (.struct #[⟨ "Do", T_int, 0, false, "", "", 0⟩, ⟨ "Now", T_int, 1, false, "", "", 8⟩, ⟨ "N", T_int, 2, false, "", "", 16⟩, ⟨ "S", T_seg_Segment, 3, false, "", "", 24⟩, ⟨ "Near", T_bool, 12, false, "", "", 104⟩, ⟨ "B", T_sl_uint8, 13, false, "", "", 112⟩]) := by kernel_rfl
theorem c_act : Tryz.prog.cellsOf T_law15_Act = 14 := by kernel_rfl
section
variable {H : Type} {enc : TypeId × Value → H} {W : World}
/-- An act that is handed in. -/
theorem at_act {l : List Value} {n : Nat} {x : DataW H × List MemPlace} (h : DataW.trod enc Tryz.prog W 0 (fun _ => true) true n T_law15_Act l = some x) :
    ∃ do_ t q s da dn dc nr ba bn bc, (∀ i, i < 14 → l[i]? = (actL do_ t q s da dn dc nr ba bn bc)[i]?) ∧ Reads (hp W) da dn (bv s.data) ∧ dn ≤ dc ∧ s.seq < 4294967296 ∧ s.ack < 4294967296 := by
  obtain ⟨xs, n1, _, _, hl2, hxl, hf⟩ := DataW.trod_struct und_act h
  have get : ∀ (k : Nat) (f : Field), k < 6 → (#[⟨ "Do", T_int, 0, false, "", "", 0⟩, ⟨ "Now", T_int, 1, false, "", "", 8⟩, ⟨ "N", T_int, 2, false, "", "", 16⟩, ⟨ "S", T_seg_Segment, 3, false, "", "", 24⟩, ⟨ "Near", T_bool, 12, false, "", "", 104⟩, ⟨ "B", T_sl_uint8, 13, false, "", "", 112⟩] : Array Field)[k]? = some f → ∃ x, DataW.trod enc Tryz.prog W 0 (fun _ => true) true n1 f.type ((l.drop f.offset).take (Tryz.prog.cellsOf f.type)) = some x := by
    intro k f hk he
    refine ⟨xs[k]'(by rw [hxl]; exact hk), ?_⟩
    rw [hf k f he]
    exact List.getElem?_eq_getElem _
  obtain ⟨_, g0⟩ := get 0 _ (by omega) rfl
  obtain ⟨_, g1⟩ := get 1 _ (by omega) rfl
  obtain ⟨_, g2⟩ := get 2 _ (by omega) rfl
  obtain ⟨_, g3⟩ := get 3 _ (by omega) rfl
  obtain ⟨_, g4⟩ := get 4 _ (by omega) rfl
  obtain ⟨_, g5⟩ := get 5 _ (by omega) rfl
  obtain ⟨z0, e0⟩ := at_int g0
  obtain ⟨z1, e1⟩ := at_int g1
  obtain ⟨z2, e2⟩ := at_int g2
  obtain ⟨s, da, dn, dc, hs, hr2, hle2, b1, b2⟩ := at_seg g3
  obtain ⟨z4, e4⟩ := at_bool g4
  obtain ⟨ba, bn, bc, bs, e5, _, _⟩ := at_bytes g5
  have hs' : ∀ t, t < 9 → l[3 + t]? = (sgL s da dn dc)[t]? := fun t ht => by
    have := hs t ht
    change ((l.drop 3).take (Tryz.prog.cellsOf T_seg_Segment))[t]? = _ at this
    rw [c_seg, List.getElem?_take_of_lt ht, List.getElem?_drop] at this
    exact this
  refine ⟨z0, z1, z2, s, da, dn, dc, z4, ba, bn, bc, fun t ht => ?_, hr2, hle2, b1, b2⟩
  match t, ht with
  | 0, _ => exact e0
  | 1, _ => exact e1
  | 2, _ => exact e2
  | 3, _ => exact hs' 0 (by omega)
  | 4, _ => exact hs' 1 (by omega)
  | 5, _ => exact hs' 2 (by omega)
  | 6, _ => exact hs' 3 (by omega)
  | 7, _ => exact hs' 4 (by omega)
  | 8, _ => exact hs' 5 (by omega)
  | 9, _ => exact hs' 6 (by omega)
  | 10, _ => exact hs' 7 (by omega)
  | 11, _ => exact hs' 8 (by omega)
  | 12, _ => exact e4
  | 13, _ => exact e5
theorem open_acts {base : Nat} {v : Value} {d : DataW H} {ps : List MemPlace} (hval : Value.okWide Tryz.prog W .any base T_sl_pointsmanlaw15_Act v) (h : DataW.Trod enc Tryz.prog W 0 (fun _ => true) true T_sl_pointsmanlaw15_Act v d ps) :
    ∃ (a : Option Addr) (n c : Nat), v = .slice a n c ∧ IsActs (hp W) a n := by
  obtain ⟨a0, n0, c0, rfl⟩ := okWide_slice und_acts hval
  obtain ⟨fuel, h⟩ := h
  rcases Go.Deep.open_slice und_acts h with ⟨h1, _⟩ | ⟨a, len, cap, m, n', D, Pl, h1, _, hlc, _, hm, _, hel⟩
  · simp only [Value.cells, List.cons.injEq, and_true] at h1
    cases h1
    exact ⟨_, _, _, rfl, fun i hi => by omega⟩
  · simp only [Value.cells, List.cons.injEq, and_true] at h1
    cases h1
    simp only [if_true] at hm
    subst hm
    refine ⟨_, _, _, rfl, fun i hi => ?_⟩
    obtain ⟨cs, hcs, htr⟩ := hel i (by omega)
    rw [c_act] at hcs
    obtain ⟨_, hl, hcell⟩ := World.cells?_some hcs
    obtain ⟨do_, t, q, s, da, dn, dc, nr, ba, bn, bc, hc, r1, r2, r3, r4⟩ := at_act htr
    obtain ⟨cs', hcs', _⟩ := hel 0 (by omega)
    rw [c_act] at hcs'
    obtain ⟨_, hl', hcell'⟩ := World.cells?_some hcs'
    have s0 := hcell' 0 (by omega)
    rw [List.getElem?_eq_getElem (by omega)] at s0
    obtain ⟨hsp, _⟩ := cell_spot (H := hp W) s0
    obtain ⟨b, o, sp⟩ := a
    replace hsp : sp = none := by simpa [Addr.add] using hsp
    subst hsp
    refine ⟨b, o, rfl, do_, t, q, s, da, dn, dc, nr, ba, bn, bc, fun i' hi' => ?_, r1, r2, r3, r4⟩
    have ea : ((⟨b, o, none⟩ : Addr).add (i * 14)).add i' = ⟨b, o + i * 14 + i', none⟩ := by
      rw [add_of_spot (a := ⟨b, o, none⟩) rfl (i * 14)]
      exact add_of_spot rfl i'
    rw [hp_cell, ← ea, hcell i' hi']
    exact hc i' hi'
end
end Go.Proofs.YtmiepjlnfclelaaGreat
end
