/-
  Rows of operations; regions.
-/
import Derived.Test.YtmiepjlnfclelaaGreatEv7
set_option linter.all false
namespace Go.Ev
open Go.Sh

/-! ### What was written stays noted -/
section
theorem add_d {h : CH} {o : CObj} : ∀ k, k ∈ h.d → k ∈ (h.add o).d := fun _ h => h
theorem wr_d {h : CH} {o : CObj} {j : Nat} : ∀ k, k ∈ h.d → k ∈ (h.wr j o).d := fun _ h => addN.old h
theorem wra_d {h : CH} {o o' : CObj} {j : Nat} : ∀ k, k ∈ h.d → k ∈ ((h.wr j o).add o').d := fun _ h => addN.old h
theorem wrs_d {h h' : CH} {k o : Nat} {xs : List CV} (hw : wrs h k o xs = some h') : ∀ k, k ∈ h.d → k ∈ h'.d := by
  unfold wrs at hw
  split at hw
  · split at hw
    · cases hw; exact wr_d
    · cases hw
  · cases hw
theorem keepH_d {h h' : CH} {c : Option CV} {y : CV} (hc : keepH h c = some (y, h')) : ∀ k, k ∈ h.d → k ∈ h'.d := by
  unfold keepH at hc
  split at hc
  · cases hc; exact fun _ h => h
  · cases hc
theorem okTy_d {P : Program} {t : TypeId} {c : Option (CV × CH)} {y : CV} {h h' : CH} (hc : okTy P t c = some (y, h')) (h0 : ∀ y h', c = some (y, h') → ∀ k, k ∈ h.d → k ∈ h'.d) : ∀ k, k ∈ h.d → k ∈ h'.d := by
  unfold okTy at hc
  split at hc
  · split at hc
    · cases hc; exact h0 _ _ rfl
    · cases hc
  · cases hc
theorem cApp_d {P : Program} {ats : List TypeId} {xs : List CV} {h h' : CH} {y : CV} (hc : cApp P ats xs h = some (y, h')) : ∀ k, k ∈ h.d → k ∈ h'.d := by
  unfold cApp at hc
  repeat' split at hc
  all_goals first | (cases hc; done) | skip
  all_goals first
    | (cases hc; exact fun _ h => h)
    | (cases hc; exact add_d)
    | (cases hc; exact wra_d)
    | (cases hc; exact wrs_d (by assumption))
theorem cCopy_d {P : Program} {ats : List TypeId} {xs : List CV} {h h' : CH} {y : CV} (hc : cCopy P ats xs h = some (y, h')) : ∀ k, k ∈ h.d → k ∈ h'.d := by
  unfold cCopy at hc
  repeat' split at hc
  all_goals first | (cases hc; done) | skip
  all_goals (cases hc; exact wrs_d (by assumption))
theorem cMake_d {P : Program} {t : TypeId} {x y z : CV} {h h' : CH} (hc : cMake P t x y h = some (z, h')) : ∀ k, k ∈ h.d → k ∈ h'.d := by
  unfold cMake at hc
  repeat' split at hc
  all_goals first | (cases hc; done) | skip
  all_goals (cases hc; exact add_d)
theorem cStore_d {P : Program} {t : TypeId} {x y : CV} {h h' : CH} (hc : cStore P t x y h = some h') : ∀ k, k ∈ h.d → k ∈ h'.d := by
  unfold cStore at hc
  repeat' split at hc
  all_goals first | (cases hc; done) | skip
  all_goals exact wrs_d hc
theorem cClear_d {P : Program} {ats : List TypeId} {xs : List CV} {h h' : CH} (hc : cClear P ats xs h = some h') : ∀ k, k ∈ h.d → k ∈ h'.d := by
  unfold cClear at hc
  repeat' split at hc
  all_goals first | (cases hc; done) | skip
  all_goals first | (cases hc; exact fun _ h => h) | exact wrs_d hc
theorem callG_d {call : Calls} {f : FuncId} {xs : List CV} {h h' : CH} {y : CV} (hc : callG call f xs h = some (y, h')) : ∀ k, k ∈ h.d → k ∈ h'.d := by
  unfold callG at hc
  repeat' split at hc
  all_goals first | (cases hc; done) | skip
  all_goals first | (cases hc; exact fun _ h => h) | (cases hc; exact fun _ h => addAll.old _ h)
theorem cCall_d {call : Calls} {P : Program} {o : Oper} {c : Call} {e : CE} {h h' : CH} {y : CV} (hc : cCall call P o c e h = some (y, h')) : ∀ k, k ∈ h.d → k ∈ h'.d := by
  unfold cCall at hc
  repeat' split at hc
  all_goals first | (cases hc; done) | skip
  all_goals first
    | exact okTy_d hc (fun _ _ h => callG_d h)
    | exact okTy_d hc (fun _ _ h => cApp_d h)
    | exact okTy_d hc (fun _ _ h => cCopy_d h)
    | exact keepH_d hc
    | (cases hc; exact cClear_d (by assumption))
theorem cOp_d {call : Calls} {P : Program} {o : Oper} {e : CE} {h h' : CH} {y : CV} (hc : cOp call P o e h = some (y, h')) : ∀ k, k ∈ h.d → k ∈ h'.d := by
  unfold cOp at hc
  split at hc
  case h_20 => exact cCall_d hc
  all_goals (repeat' split at hc)
  all_goals first | (cases hc; done) | skip
  all_goals first
    | exact keepH_d hc
    | (cases hc; exact add_d)
    | (cases hc; exact fun _ h => h)
    | exact okTy_d hc (fun _ _ h => cMake_d h)
    | (unfold storeH at hc; split at hc <;> first | (cases hc; exact cStore_d (by assumption)) | (cases hc; done))
end

/-! ### Rows -/
/-- Whether an operation is to be done: its guard. -/
def cGuard (all : Array Oper) (o : Oper) (e : CE) : Option Bool := match o.guard with
  | none => some true
  | some (j, want) => (match gdst all j with
    | some d => (match getE e d with
      | .bool b => some (match b, want with | true, true => true | false, false => true | _, _ => false)
      | .opq v => (match v with
        | .bool _ => none
        | _ => some false)
      | _ => none)
    | none => some false)
def cOps (call : Calls) (P : Program) (all : Array Oper) : List Oper → CE → CH → Option (CE × CH)
  | [], e, h => some (e, h)
  | o :: os, e, h => match cGuard all o e with
    | some true => (match cOp call P o e h with
      | some (y, h') => cOps call P all os (putE e o.dst y) h'
      | none => none)
    | some false => cOps call P all os (putE e o.dst (.opq undef)) h
    | none => none
theorem cOps_d {call : Calls} {P : Program} {all : Array Oper} : ∀ (os : List Oper) {e e' : CE} {h h' : CH}, cOps call P all os e h = some (e', h') → ∀ k, k ∈ h.d → k ∈ h'.d
  | [], _, _, _, _, hc => by cases hc; exact fun _ h => h
  | o :: os, _, _, _, _, hc => by
    simp only [cOps] at hc
    split at hc
    · split at hc
      · rename_i hy; exact fun k hk => cOps_d os hc k (cOp_d hy k hk)
      · cases hc
    · exact cOps_d os hc
    · cases hc

/-- The guard of the model's reading. -/
theorem OpG_of {all : Array Oper} {S : Oper → Env → Heap → (Value → Heap → Prop) → Prop} {o : Oper} {r : List RB} {e : CE} {ρ : Env} {H : Heap} {K : Env → Heap → Prop} (hE : ER r e ρ) {g : Bool} (hg : cGuard all o e = some g)
    (hy : g = true → S o ρ H fun v H' => K (put ρ o.dst v) H') (hn : g = false → K (put ρ o.dst undef) H) : OpG all S o ρ H K := by
  unfold cGuard at hg
  unfold OpG
  split at hg
  · rename_i h0; rw [h0]; cases hg; exact hy rfl
  · rename_i j want h0
    rw [h0]
    simp only
    split at hg
    · rename_i d hd
      rw [hd]
      simp only
      have ht := hE d
      split at hg
      · rename_i b hb
        rw [hb] at ht
        simp only [VR] at ht
        rw [ht]
        simp only
        cases hg
        cases b with
        | true =>
          simp only [IfB]
          rw [put_same ht]
          cases want with
          | true => exact hy rfl
          | false => exact hn rfl
        | false =>
          simp only [IfB]
          rw [put_same ht]
          cases want with
          | false => exact hy rfl
          | true => exact hn rfl
      · rename_i v hv
        rw [hv] at ht
        simp only [VR] at ht
        rw [ht]
        split at hg
        · cases hg
        · rename_i hnb
          cases hg
          have := hn rfl
          split
          · rename_i b; exact absurd rfl (hnb b)
          · exact this
      · cases hg
    · rename_i hd
      rw [hd]
      cases hg
      exact hn rfl

def FinE (P : Program) (H0 : Heap) (r : List RB) (h : CH) (H : Heap) (e' : CE) (h' : CH) (K : Env → Heap → Prop) : Prop :=
  ∀ (r' : List RB) (H' : Heap) (ρ' : Env), Ex r h H r' h' H' → Rl P H0 r' h' H' → ER r' e' ρ' → K ρ' H'

section
variable {P : Program} {H0 : Heap}
theorem cOps.ok {call : Calls} (hC : CallOk P call) {all : Array Oper} {e' : CE} {h' : CH} {K : Env → Heap → Prop} : ∀ (os : List Oper) {r : List RB} {h : CH} {H : Heap} {e : CE} {ρ : Env}, cOps call P all os e h = some (e', h') → Rl P H0 r h H → ER r e ρ → FinE P H0 r h H e' h' K → OpsL all (OpW P) os ρ H K
  | [], r, h, H, e, ρ, hc, R, hE, hk => by cases hc; exact hk r H ρ (Ex.refl _ _ _) R hE
  | o :: os, r, h, H, e, ρ, hc, R, hE, hk => by
    simp only [cOps] at hc
    unfold OpsL
    split at hc
    · rename_i hg
      split at hc
      · rename_i y h1 hy
        refine OpG_of hE hg (fun _ => ?_) (fun h => by cases h)
        refine cOp.ok hC R hE hy fun r1 H1 v E1 R1 hv => ?_
        exact cOps.ok hC os hc R1 ((hE.mono E1.pre).put _ hv) fun r2 H2 ρ2 E2 R2 hE2 => hk r2 H2 ρ2 (E1.trans E2) R2 hE2
      · cases hc
    · rename_i hg
      refine OpG_of hE hg (fun h => by cases h) (fun _ => ?_)
      exact cOps.ok hC os hc R (hE.put _ (by simp only [VR])) hk
    · cases hc

/-! ### Rows with loads that calls leave alone -/
def cOpsK (call : Calls) (P : Program) (C : List Tmp) (all : Array Oper) (h0 : CH) : List Oper → CE → CH → List Nat → Option (CE × CH × List Nat)
  | [], e, h, ks => some (e, h, ks)
  | o :: os, e, h, ks => match cGuard all o e with
    | some true => (match inC C o with
      | true => (match o.op with
        | .load t a => (match cEv e a with
          | some (.ptr k off) => (match live h0 k, cLoad P t (.ptr k off) h with
            | true, some y => cOpsK call P C all h0 os (putE e o.dst y) h (k :: ks)
            | _, _ => none)
          | _ => none)
        | _ => none)
      | false => (match cOp call P o e h with
        | some (y, h') => cOpsK call P C all h0 os (putE e o.dst y) h' ks
        | none => none))
    | some false => cOpsK call P C all h0 os (putE e o.dst (.opq undef)) h ks
    | none => none
theorem cOpsK_d {call : Calls} {P : Program} {C : List Tmp} {all : Array Oper} {h0 : CH} : ∀ (os : List Oper) {e e' : CE} {h h' : CH} {ks ks' : List Nat}, cOpsK call P C all h0 os e h ks = some (e', h', ks') → (∀ k, k ∈ h.d → k ∈ h'.d) ∧ ∀ k, k ∈ ks → k ∈ ks'
  | [], _, _, _, _, _, _, hc => by cases hc; exact ⟨fun _ h => h, fun _ h => h⟩
  | o :: os, _, _, _, _, _, _, hc => by
    simp only [cOpsK] at hc
    split at hc
    · split at hc
      · split at hc
        · split at hc
          · split at hc
            · obtain ⟨h1, h2⟩ := cOpsK_d os hc
              exact ⟨h1, fun k hk => h2 k (List.mem_cons_of_mem _ hk)⟩
            · cases hc
          · cases hc
        · cases hc
      · split at hc
        · rename_i hy
          obtain ⟨h1, h2⟩ := cOpsK_d os hc
          exact ⟨fun k hk => h1 k (cOp_d hy k hk), h2⟩
        · cases hc
    · exact cOpsK_d os hc
    · cases hc
def blksOf (r : List RB) (ks : List Nat) : List Nat := ks.filterMap fun k => (r[k]?).map (·.blk)
theorem mem_blks {r : List RB} {ks : List Nat} {j : Nat} : j ∈ blksOf r ks ↔ ∃ k b, k ∈ ks ∧ r[k]? = some b ∧ b.blk = j := by
  unfold blksOf
  rw [List.mem_filterMap]
  constructor
  · rintro ⟨k, hk, h⟩
    cases hb : r[k]? with
    | none => rw [hb] at h; cases h
    | some b => rw [hb] at h; cases h; exact ⟨k, b, hk, hb, rfl⟩
  · rintro ⟨k, b, hk, hb, rfl⟩
    exact ⟨k, hk, by rw [hb]; rfl⟩
/-- All that was loaded is of blocks that were there at first. -/
theorem cOpsK_live {call : Calls} {P : Program} {C : List Tmp} {all : Array Oper} {h0 : CH} : ∀ (os : List Oper) {e e' : CE} {h h' : CH} {ks ks' : List Nat}, cOpsK call P C all h0 os e h ks = some (e', h', ks') → (∀ k, k ∈ ks → live h0 k = true) → ∀ k, k ∈ ks' → live h0 k = true
  | [], _, _, _, _, _, _, hc, hl => by cases hc; exact hl
  | o :: os, _, _, _, _, _, _, hc, hl => by
    simp only [cOpsK] at hc
    split at hc
    · split at hc
      · split at hc
        · split at hc
          · split at hc
            · rename_i h1 h2
              refine cOpsK_live os hc fun k hk => ?_
              rcases List.mem_cons.1 hk with rfl | hk
              · exact h1
              · exact hl k hk
            · cases hc
          · cases hc
        · cases hc
      · split at hc
        · exact cOpsK_live os hc hl
        · cases hc
    · exact cOpsK_live os hc hl
    · cases hc

/-- Rows whose loads of some temporaries are said of the heap at first. -/
theorem cOpsK.ok {call : Calls} (hC : CallOk P call) {C : List Tmp} {all : Array Oper} {h0 : CH} {r0 : List RB} {Hs : Heap} (R0 : Rl P H0 r0 h0 Hs) (hm : h0.m = h0.n) {e' : CE} {h' : CH} {ks' : List Nat} (hks : ∀ k, k ∈ ks' → live h0 k = true ∧ k ∉ h'.d) {K : Env → Heap → Prop} :
    ∀ (os : List Oper) {r : List RB} {h : CH} {H : Heap} {e : CE} {ρ : Env} {ks : List Nat}, cOpsK call P C all h0 os e h ks = some (e', h', ks') → Rl P H0 r h H → Ex r0 h0 Hs r h H → ER r e ρ → FinE P H0 r0 h0 Hs e' h' K → OpsL all (KeptS P C (blksOf r0 ks') Hs) os ρ H K := by
  have key : ∀ {h : CH} {r : List RB} {H : Heap}, (∀ k, k ∈ h.d → k ∈ h'.d) → Ex r0 h0 Hs r h H → KeptIn (blksOf r0 ks') Hs H := by
    intro h r H hd E b hb
    obtain ⟨k, x, hk, hx, rfl⟩ := mem_blks.1 hb
    obtain ⟨h1, h2⟩ := hks k hk
    have hlt : k < h0.m := by rw [hm, ← R0.len]; exact (List.getElem?_eq_some_iff.1 hx).1
    exact ⟨R0.thr hx h1, (E.same k x hx h1 hlt fun h => h2 (hd k h)).1⟩
  intro os
  induction os with
  | nil => intro r h H e ρ ks hc R E hE hk; cases hc; exact hk r H ρ E R hE
  | cons o os ih =>
    intro r h H e ρ ks hc R E hE hk
    have hd0 := cOpsK_d _ hc
    simp only [cOpsK] at hc
    unfold OpsL
    split at hc
    · rename_i hg
      refine OpG_of hE hg (fun _ => ?_) (fun h => by cases h)
      split at hc
      · rename_i hin
        split at hc
        · rename_i t a ho
          split at hc
          · rename_i k off hx
            split at hc
            · rename_i y hl hy
              have hv := hE.cev hx
              unfold KeptS
              rw [hin]
              simp only [ho]
              have hv' := hv
              simp only [VR] at hv'
              obtain ⟨b, hb, hv'⟩ := hv'
              rw [hv']
              have hkm : k ∈ ks' := (cOpsK_d _ hc).2 k List.mem_cons_self
              have hlt : k < h0.n := by
                unfold live at hl
                cases e1 : h0.t.get k with
                | none => rw [e1] at hl; cases hl
                | some o => exact R0.lt e1
              obtain ⟨b0, hb0⟩ := R0.at hlt
              have : b0 = b := by
                have := E.pre k b0 hb0
                rw [hb] at this; exact (Option.some.inj this).symm
              subst this
              have hbm : b0.blk ∈ blksOf r0 ks' := mem_blks.2 ⟨k, b0, hkm, hb0, rfl⟩
              refine ⟨hbm, ?_⟩
              have hsame := (key (fun j hj => hd0.1 j hj) E b0.blk hbm).2
              have hld : LoadW P t (ev ρ a) H (fun v _ => OpsL all (KeptS P C (blksOf r0 ks') Hs) os (put ρ o.dst v) H K) :=
                cLoad.ok R hy hv fun w hw => ih hc R E (hE.put _ hw) hk
              rw [hv'] at hld
              obtain ⟨w, hw, hl2⟩ := LoadW.read hld
              refine hl2 Hs _ (fun q hq p' hp' v hv => ?_) hw
              cases hq
              simp only [Heap.cell, hp'] at hv ⊢
              rw [← hsame]; exact hv
            · cases hc
          · cases hc
        · cases hc
      · rename_i hin
        split at hc
        · rename_i y h1 hy
          unfold KeptS
          rw [hin]
          have main : OpW P o ρ H fun v H' => KeptIn (blksOf r0 ks') Hs H' ∧ OpsL all (KeptS P C (blksOf r0 ks') Hs) os (put ρ o.dst v) H' K := by
            refine cOp.ok hC R hE hy fun r1 H1 v E1 R1 hv => ?_
            have E' := E.trans E1
            exact ⟨key (fun j hj => (cOpsK_d _ hc).1 j hj) E', ih hc R1 E' ((hE.mono E1.pre).put _ hv) hk⟩
          simp only
          split
          · exact main
          · exact OpW.mono (fun v H' h => h.2) main
        · cases hc
    · rename_i hg
      refine OpG_of hE hg (fun h => by cases h) (fun _ => ?_)
      exact ih hc R E (hE.put _ (by simp only [VR])) hk
    · cases hc

/-! ### Regions -/
def nonein : List Nat → List Nat → Bool
  | [], _ => true
  | k :: ks, d => match memN k d with
    | true => false
    | false => nonein ks d
theorem memN_iff {k : Nat} : ∀ {l : List Nat}, memN k l = false → k ∉ l
  | [], _ => by simp
  | j :: l, h => by
    simp only [memN] at h
    split at h
    · cases h
    · rename_i e
      intro hm
      rcases List.mem_cons.1 hm with rfl | hm
      · exact beq_false e rfl
      · exact memN_iff h hm
theorem nonein.ok : ∀ {ks d : List Nat}, nonein ks d = true → ∀ k, k ∈ ks → k ∉ d
  | [], _, _, k, hk => by cases hk
  | j :: ks, d, h, k, hk => by
    simp only [nonein] at h
    split at h
    · cases h
    · rename_i e
      rcases List.mem_cons.1 hk with rfl | hk
      · exact memN_iff e
      · exact nonein.ok h k hk
def cDraw (call : Calls) (P : Program) (plan : Plan) (id : Nat) (ops : Array Oper) (e : CE) (h : CH) : Option (CE × CH) := match treeOf id plan.trees with
  | some _ => none
  | none => (match planOf id plan.regs with
    | none => cOps call P ops ops.toList e h
    | some (l, []) => cOps call P ops (opsAt ops l) e h
    | some (l, c :: C) => (match Nat.beq c lateMk with
      | true => none
      | false => (match cOpsK call P (c :: C) ops h.mark (opsAt ops (l.take (headN ops l))) e h.mark [] with
        | some (e1, h1, ks) => (match nonein ks h1.d with
          | true => cOps call P ops (opsAt ops (l.drop (headN ops l))) e1 (h1.back h)
          | false => none)
        | none => none)))
theorem cDraw.ok {call : Calls} (hC : CallOk P call) {plan : Plan} {id : Nat} {ops : Array Oper} {e e' : CE} {h h' : CH} {r : List RB} {H : Heap} {ρ : Env} {K : Env → Heap → Prop} (hc : cDraw call P plan id ops e h = some (e', h')) (R : Rl P H0 r h H) (hE : ER r e ρ) (hk : FinE P H0 r h H e' h' K) :
    DrawW P plan id ops ρ H K := by
  unfold cDraw at hc
  unfold DrawW
  split at hc
  · cases hc
  · rename_i ht
    rw [ht]
    simp only
    split at hc
    · rename_i hp; rw [hp]; exact cOps.ok hC _ hc R hE hk
    · rename_i hp; rw [hp]; exact cOps.ok hC _ hc R hE hk
    · rename_i l c C hp
      rw [hp]
      simp only
      split at hc
      · cases hc
      · rename_i hl
        rw [hl]
        simp only
        split at hc
        · rename_i e1 h1 ks hcs
          split at hc
          · rename_i hno
            have hlive := cOpsK_live _ hcs (fun k hk => by cases hk)
            refine ⟨blksOf r ks, fun b hb => ?_, ?_⟩
            · obtain ⟨k, x, hk', hx, rfl⟩ := mem_blks.1 hb
              exact R.thr hx (hlive k hk')
            · refine cOpsK.ok hC (R.re _ _ : Rl P H0 r h.mark H) rfl (fun k hk => ⟨hlive k hk, nonein.ok hno k hk⟩) _ hcs (R.re _ _) (Ex.refl _ _ _) hE ?_
              intro r1 H1 ρ1 E1 R1 hE1
              have E1' := Ex.back R E1
              exact cOps.ok hC _ hc (R1.re _ _) hE1 fun r2 H2 ρ2 E2 R2 hE2 => hk r2 H2 ρ2 (E1'.trans E2) R2 hE2
          · cases hc
        · cases hc
end
end Go.Ev
