/-
  From the readings back to the model: operations, regions (also such whose order is drawn).
-/
import Derived.Test.YthojhkhiamomnaaGreatSh8
namespace Go.Sh

def memB (n : Nat) : List Nat → Bool
  | [] => false
  | m :: l => match Nat.beq n m with | true => true | false => memB n l
theorem memB_iff {n : Nat} : ∀ {l : List Nat}, memB n l = true ↔ n ∈ l
  | [] => by simp [memB]
  | m :: l => by
    simp only [memB, List.mem_cons]
    cases h : Nat.beq n m with
    | true => simp [Nat.eq_of_beq_eq_true h]
    | false =>
      have hne : n ≠ m := fun e => by subst e; rw [Nat.beq_refl] at h; cases h
      simp [hne, memB_iff (l := l)]

/-- Loads that are done of blocks that the region's calls keep. -/
def inC (C : List Tmp) (o : Oper) : Bool := match o.dst with
  | some d => memB d C
  | none => false

/-- What H0 held in these blocks is there. -/
def KeptIn (bs : List Nat) (H0 H : Heap) : Prop := ∀ b, b ∈ bs → (∃ o, H0 b = some o) ∧ H b = H0 b

def KeptS (P : Program) (C : List Tmp) (bs : List Nat) (H0 : Heap) (o : Oper) (ρ : Env) (H : Heap) (K : Value → Heap → Prop) : Prop :=
  match inC C o with
  | true => match o.op with
    | .load t a => match ev ρ a with
      | .pointer (some p) => p.block ∈ bs ∧ LoadW P t (.pointer (some p)) H0 fun v _ => K v H
      | _ => False
    | _ => False
  | false => match Nat.ble 3 (rank P o) with
    | true => OpW P o ρ H fun v H' => KeptIn bs H0 H' ∧ K v H'
    | false => OpW P o ρ H K

def rankC (P : Program) (C : List Tmp) (o : Oper) : Nat := match inC C o with
  | true => match o.op with | .load _ _ => 0 | _ => 4
  | false => rank P o

theorem rankedKept (P : Program) (C : List Tmp) (bs : List Nat) (H0 : Heap) : Ranked (KeptS P C bs H0) (rankC P C) where
  mono := by
    intro o ρ H K K' hk h
    unfold KeptS at *
    cases hC : inC C o with
    | true =>
      rw [hC] at h
      simp only at h ⊢
      split at h
      · split at h
        · rename_i p hp
          obtain ⟨hb, h⟩ := h
          obtain ⟨v, hv, hl⟩ := LoadW.read h
          exact ⟨hb, hl H0 _ (fun _ _ _ _ _ h => h) (hk _ _ hv)⟩
        · exact h.elim
      · exact h.elim
    | false =>
      rw [hC] at h
      simp only at h ⊢
      split at h
      · exact OpW.mono (fun v H h => ⟨h.1, hk _ _ h.2⟩) h
      · exact OpW.mono hk h
  congr := by
    intro o ρ ρ' H K hc h
    unfold KeptS at *
    cases hC : inC C o with
    | true =>
      rw [hC] at h
      simp only at h ⊢
      cases ho : o.op <;> rw [ho] at h <;> simp only at h ⊢
      rename_i t a
      have he : ev ρ a = ev ρ' a := ev_congr hc a (by simp [ho, Op.operands])
      rw [← he]; exact h
    | false =>
      rw [hC] at h
      simp only at h ⊢
      split at h
      · exact OpW.congr hc h
      · exact OpW.congr hc h
  pure0 := by
    intro o ρ hr
    unfold KeptS rankC at *
    cases hC : inC C o with
    | true =>
      rw [hC] at hr
      simp only at hr ⊢
      cases ho : o.op <;> rw [ho] at hr <;> simp only at hr ⊢ <;> first | (cases hr; done) | skip
      rename_i t ad
      split
      · rename_i p hp
        by_cases hc : ∃ K0, LoadW P t (.pointer (some p)) H0 K0
        · obtain ⟨K0, h0⟩ := hc
          obtain ⟨v, hv, hl⟩ := LoadW.read h0
          refine ⟨p.block ∈ bs, v, fun H K => ⟨fun h => ⟨h.1, ?_⟩, fun h => ⟨h.1, hl H0 _ (fun _ _ _ _ _ h => h) h.2⟩⟩⟩
          have h3 := hl H0 (fun u _ => u = v) (fun _ _ _ _ _ h => h) rfl
          obtain ⟨u, h4, h5⟩ := LoadW.det h.2 h3
          subst h5; exact h4
        · exact ⟨False, undef, fun H K => ⟨fun h => (hc ⟨_, h.2⟩).elim, fun h => h.1.elim⟩⟩
      · exact pureW_false
    | false =>
      rw [hC] at hr
      simp only at hr ⊢
      rw [hr]
      exact OpW.pure0 hr ρ
  read1 := by
    intro o ρ hr
    unfold KeptS rankC at *
    cases hC : inC C o with
    | true =>
      rw [hC] at hr
      simp only at hr
      cases ho : o.op <;> rw [ho] at hr <;> cases hr
    | false =>
      rw [hC] at hr
      simp only at hr ⊢
      rw [hr]
      exact OpW.read1 hr ρ
  ro5 := by
    intro o ρ hr
    unfold KeptS rankC at *
    cases hC : inC C o with
    | true =>
      rw [hC] at hr
      simp only at hr
      cases ho : o.op <;> rw [ho] at hr <;> cases hr
    | false =>
      rw [hC] at hr
      simp only at hr ⊢
      rw [hr]
      obtain ⟨R, h⟩ := OpW.ro5 hr ρ
      exact ⟨fun H v => KeptIn bs H0 H ∧ R H v, fun H K => (h H _).trans ⟨fun ⟨v, h1, h2, h3⟩ => ⟨v, ⟨h2, h1⟩, h3⟩, fun ⟨v, ⟨h1, h2⟩, h3⟩ => ⟨v, h2, h1, h3⟩⟩⟩
  new2 := by
    intro o ρ hr
    unfold KeptS rankC at *
    cases hC : inC C o with
    | true =>
      rw [hC] at hr
      simp only at hr
      cases ho : o.op <;> rw [ho] at hr <;> cases hr
    | false =>
      rw [hC] at hr
      simp only at hr ⊢
      rw [hr]
      exact OpW.new2 hr ρ
  mem3 := by
    intro o ρ obj H K hr h
    unfold KeptS rankC at *
    cases hC : inC C o with
    | true =>
      rw [hC] at hr
      simp only at hr
      cases ho : o.op <;> rw [ho] at hr <;> cases hr
    | false =>
      rw [hC] at h hr
      simp only at h hr ⊢
      rw [hr] at h ⊢
      refine OpW.mono (fun v H1 h1 => ⟨?_, fun n hn => (h1 n hn).2⟩) (OpW.mem3 hr ρ obj H (fun n v H' => KeptIn bs H0 H' ∧ K n v H') h)
      obtain ⟨n, hn, hf⟩ := H1.free bs
      have := (h1 n hf).1
      intro b hb
      have hb' := this b hb
      rw [upd_ne (fun e => hn (by rw [← e]; exact hb))] at hb'
      exact hb'

/-- A semantics of one operation holds in the model, where I holds, and leaves I. -/
def Sound (P : Program) (S : Oper → Env → Heap → (Value → Heap → Prop) → Prop) (I : Heap → Prop) : Prop :=
  ∀ o ρ H K, I H → S o ρ H K → SemW P (execOp (ev ρ) o) H (NextW P fun v H' => I H' ∧ K v H')

theorem soundOp (P : Program) : Sound P (OpW P) fun _ => True :=
  fun _ _ _ _ _ h => SemW.mono _ _ _ _ (fun n H h => NextW.mono (fun _ _ h => ⟨trivial, h⟩) n H h) (OpW.sem h)

theorem soundKept (P : Program) (C : List Tmp) (bs : List Nat) (H0 : Heap) : Sound P (KeptS P C bs H0) (KeptIn bs H0) := by
  intro o ρ H K hI h
  unfold KeptS at h
  cases hC : inC C o with
  | true =>
    rw [hC] at h
    simp only at h
    cases ho : o.op <;> rw [ho] at h <;> simp only at h
    rename_i t a
    split at h
    · rename_i p hp
      obtain ⟨hb, h⟩ := h
      obtain ⟨v, hv, hl⟩ := LoadW.read h
      refine OpW.sem ?_
      unfold OpW
      rw [ho]
      simp only
      rw [hp]
      refine hl H _ (fun q hq p' hp' v hv => ?_) ⟨hI, hv⟩
      cases hq
      have hbl := (hI _ hb).2
      simp only [Heap.cell, hp', hbl] at hv ⊢
      exact hv
    · exact h.elim
  | false =>
    rw [hC] at h
    simp only at h
    refine OpW.sem ?_
    by_cases h3 : Nat.ble 3 (rank P o) = true
    · rw [h3] at h
      exact h
    · have h3' : Nat.ble 3 (rank P o) = false := Bool.eq_false_iff.2 h3
      rw [h3'] at h
      simp only at h
      have hr : rank P o = 0 ∨ rank P o = 1 ∨ rank P o = 2 := by
        have : ¬ 3 ≤ rank P o := fun hle => h3 (Nat.ble_eq_true_of_le hle)
        omega
      rcases hr with hr | hr | hr
      · obtain ⟨ok, v, hp⟩ := OpW.pure0 hr ρ
        obtain ⟨hok, hv⟩ := (hp _ _).1 h
        exact (hp _ _).2 ⟨hok, hI, hv⟩
      · obtain ⟨blk, hp⟩ := OpW.read1 hr ρ
        obtain ⟨_, v, hv⟩ := hp _ _ h
        exact (hv _ _ rfl).2 ⟨hI, (hv _ _ rfl).1 h⟩
      · obtain ⟨ok, val, obj, hp⟩ := OpW.new2 hr ρ
        obtain ⟨hok, hn⟩ := (hp _ _).1 h
        refine (hp _ _).2 ⟨hok, fun n hf => ⟨fun b hb => ?_, hn n hf⟩⟩
        obtain ⟨⟨o', ho'⟩, hb2⟩ := hI b hb
        refine ⟨⟨o', ho'⟩, ?_⟩
        rw [upd_ne (fun e => by subst e; rw [hf] at hb2; rw [← hb2] at ho'; cases ho')]
        exact hb2

/-- All that an operation names lies among the n temporaries; it is none that leaves the road. -/
def opIn (n : Nat) (all : Array Oper) (o : Oper) : Bool :=
  (looks all o).all (Nat.blt · n) && dstIn n o.dst && (match o.guard with | some (j, _) => (match gdst all j with | some d => Nat.blt d n | none => true) | none => true) &&
  (match o.op with | .select _ _ => false | .defer _ => false | _ => true)

variable {D : List Deferred} {r : Option Nat}
theorem eval_ev {n : Nat} {ρ : Env} {a : Act} (hf : Fits n D ρ a) (x : Operand) (hx : ∀ t, x = .tmp t → t < n) : a.eval x = ev ρ x := by
  cases x with
  | tmp t => exact hf.tmp t (hx t rfl)
  | _ => rfl

theorem wp_op {P : Program} {S} {I : Heap → Prop} (hS : Sound P S I) {n : Nat} {all : Array Oper} {o : Oper} {ρ : Env} {a : Act} {w : World} {K : Value → Heap → Prop} {next : Act → World → Prop} {Q : Exit → Act → World → Prop}
    (hin : opIn n all o = true) (hf : Fits n D ρ a) (hI : I (hp w)) (h : S o ρ (hp w) K) (hn : ∀ v w', I (hp w') → K v (hp w') → Rest w w' → next (a.put o.dst v) w') : o.wpIn (Fw r) 0 P a w next Q := by
  simp only [opIn, Bool.and_eq_true] at hin
  obtain ⟨⟨⟨h1, h2⟩, h3⟩, h4⟩ := hin
  have hsem := hS o ρ (hp w) K hI h
  have hx : execOp a.eval o = execOp (ev ρ) o := by
    refine execOp_congr o (fun cs b e => by rw [e] at h4; cases h4) fun x hx => eval_ev hf x fun t ht => ?_
    have : t ∈ opTmps o := List.mem_filterMap.2 ⟨x, by simpa using hx, by rw [ht]⟩
    have := (List.all_eq_true.1 h1) t (opTmps_looks this)
    simpa using this
  unfold Oper.wpIn
  refine ⟨fun f _ => fw_fn r f, ?_⟩
  rw [Oper.semAt_eq _ _ _ (fun c e => by rw [e] at h4; cases h4), hx]
  obtain ⟨nx, w', hr, hk, hrest⟩ := SemW.sound _ w _ hsem
  rw [hr]
  cases nx <;> simp only [NextW] at hk
  case value v => exact hn v w' hk.1 hk.2 hrest
  case skip => exact hn undef w' hk.1 hk.2 hrest
  case enter f args =>
    rw [Oper.uponIn_enter]
    refine ⟨(fun h => by cases h), (calls_fw r (hk.2 w' rfl)).mono ?_⟩
    rintro e w'' ⟨v, rfl, hv, hrest'⟩
    exact hn v w'' hv.1 hv.2 (hrest.trans hrest')
  case round l fn tmps assign body =>
    rw [Oper.uponIn_round]
    have h1 : RoundIn (Fw r) (0 - 1) P l fn tmps assign body w' _ := hk w' rfl
    refine ⟨(fun h => by cases h), h1.mono ?_⟩
    rintro e w'' ⟨v, rfl, hv, hrest'⟩
    exact hn v w'' hv.1 hv.2 (hrest.trans hrest')

theorem wanted_eq {n : Nat} {all : Array Oper} {o : Oper} {ρ : Env} {a : Act} (hin : opIn n all o = true) (hf : Fits n D ρ a) : Region.wanted o (yielded all a.tmps) = wantedE all o ρ := by
  simp only [opIn, Bool.and_eq_true] at hin
  obtain ⟨⟨⟨h1, h2⟩, h3⟩, h4⟩ := hin
  unfold Region.wanted wantedE
  cases hg : o.guard with
  | none => rfl
  | some g =>
    obtain ⟨j, want⟩ := g
    rw [hg] at h3
    simp only at h3 ⊢
    have hy : yielded all a.tmps j = match gdst all j with | some d => (match ρ d with | .bool b => some b | _ => none) | none => none := by
      unfold yielded gdst at *
      have e : all.toList[j]? = all[j]? := by simp
      rw [e] at h3 ⊢
      cases hj : all[j]? with
      | none => rfl
      | some oj =>
        rw [hj] at h3
        simp only at h3
        simp only [Option.bind_some]
        cases hd : oj.dst with
        | none => rfl
        | some d =>
          rw [hd] at h3
          simp only at h3
          have hd' : d < n := by simpa using h3
          have ht := hf.tmp d hd'
          have hsz := hf.size
          have hlt : d < a.tmps.size := by rw [hsz]; exact hd'
          rw [Array.getD_eq_getD_getElem?, Array.getElem?_eq_getElem hlt] at ht
          simp only [Option.getD_some] at ht
          simp only [Option.bind_some]
          rw [Array.getElem?_eq_getElem hlt, ht]
          cases ρ d <;> rfl
    rw [hy]
    cases gdst all j with
    | none => rfl
    | some d =>
      simp only
      cases ρ d <;> rfl

/-- One operation of a region, under its guard, in the model. -/
theorem wpOp_of {P : Program} {S} {I : Heap → Prop} (hS : Sound P S I) {n : Nat} {all : Array Oper} {i : Nat} {o : Oper} (hi : all[i]? = some o) {ρ : Env} {a : Act} {w : World} {K : Env → Heap → Prop} {next : Act → World → Prop} {Q : Exit → Act → World → Prop}
    (hin : opIn n all o = true) (hf : Fits n D ρ a) (hI : I (hp w)) (h : GW all S o ρ (hp w) K)
    (hn : ∀ ρ' a' w', Fits n D ρ' a' → I (hp w') → K ρ' (hp w') → Rest w w' → next a' w') : wpOpIn (Fw r) 0 P all Q i next a w := by
  have hd : dstIn n o.dst = true := by
    simp only [opIn, Bool.and_eq_true] at hin
    exact hin.1.1.2
  unfold wpOpIn
  rw [hi]
  simp only
  rw [wanted_eq hin hf]
  unfold GW at h
  cases hw : wantedE all o ρ with
  | true =>
    rw [hw] at h
    simp only [if_true]
    exact (wp_op hS hin hf hI h fun v w' hI' hk hr => hn _ _ _ (hf.put o.dst v hd) hI' hk hr)
  | false =>
    rw [hw] at h
    simp only [Bool.false_eq_true, if_false]
    exact ⟨fun f _ => fw_fn r f, hn _ _ _ (hf.put o.dst undef hd) hI h (.refl w)⟩

/-- A region whose order is the text's. -/
theorem wpOps_of {P : Program} {S} {I : Heap → Prop} (hS : Sound P S I) {n : Nat} {all : Array Oper} {Q : Exit → Act → World → Prop} {K : Env → Heap → Prop} {w0 : World}
    (hin : all.toList.all (opIn n all) = true) (hQ : ∀ ρ a w, Fits n D ρ a → I (hp w) → K ρ (hp w) → Rest w0 w → Q .normal a w) :
    ∀ (l : List Nat) (ops : List Oper), (∀ k : Nat, (l[k]?).bind (fun i => all[i]?) = ops[k]?) → l.length = ops.length → ∀ (ρ : Env) (a : Act) (w : World), Fits n D ρ a → I (hp w) → Rest w0 w → GWs all S ops ρ (hp w) K → wpOpsIn (Fw r) 0 P all Q l a w := by
  intro l
  induction l with
  | nil =>
    intro ops hl hlen ρ a w hf hI hr h
    obtain rfl : ops = [] := by cases ops with | nil => rfl | cons => simp at hlen
    exact hQ ρ a w hf hI h hr
  | cons i l ih =>
    intro ops hl hlen ρ a w hf hI hr h
    cases ops with
    | nil => simp at hlen
    | cons o os =>
      have h0 := hl 0
      simp at h0
      rw [wpOpsIn_cons]
      have hin' : opIn n all o = true := List.all_eq_true.1 hin o (by rw [Array.mem_toList_iff]; exact Array.mem_of_getElem? h0)
      refine wpOp_of hS h0 hin' hf hI h fun ρ' a' w' hf' hI' hk hr' => ?_
      exact ih os (fun k => by have := hl (k + 1); simpa using this) (by simpa using hlen) ρ' a' w' hf' hI' (hr.trans hr') hk

end Go.Sh
