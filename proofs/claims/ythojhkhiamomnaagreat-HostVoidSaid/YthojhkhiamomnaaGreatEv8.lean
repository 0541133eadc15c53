/-
  Rows of operations; regions.
-/
import Derived.Test.YthojhkhiamomnaaGreatEv7
noncomputable section
set_option linter.all false
namespace Go.Ev
variable [Sym]
open Go.Sh

/-! ### What was written stays noted -/
section
theorem add_d {h : CH} {o : CObj} : ∀ k, k ∈ h.d → k ∈ (h.add o).d := fun _ h => h
theorem wr_d {h : CH} {o : CObj} {j : Nat} : ∀ k, k ∈ h.d → k ∈ (h.wr j o).d := fun _ h => addN.old h
theorem wra_d {h : CH} {o o' : CObj} {j : Nat} : ∀ k, k ∈ h.d → k ∈ ((h.wr j o).add o').d := fun _ h => addN.old h
theorem wrs_d {h h' : CH} {k o : Nat} {xs : List CV} (hw : wrs h k o xs = some h') : ∀ k, k ∈ h.d → k ∈ h'.d := by
  unfold wrs at hw
  split at hw
  · split at hw
    · cases hw; exact wr_d
    · cases hw
  · cases hw
theorem keepH_d {h h' : CH} {c : Option CV} {y : CV} (hc : keepH h c = some (y, h')) : ∀ k, k ∈ h.d → k ∈ h'.d := by
  unfold keepH at hc
  split at hc
  · cases hc; exact fun _ h => h
  · cases hc
theorem okTy_d {P : Program} {t : TypeId} {c : Option (CV × CH)} {y : CV} {h h' : CH} (hc : okTy P t c = some (y, h')) (h0 : ∀ y h', c = some (y, h') → ∀ k, k ∈ h.d → k ∈ h'.d) : ∀ k, k ∈ h.d → k ∈ h'.d := by
  unfold okTy at hc
  split at hc
  · split at hc
    · cases hc; exact h0 _ _ rfl
    · cases hc
  · cases hc
theorem cApp_d {P : Program} {ats : List TypeId} {xs : List CV} {h h' : CH} {y : CV} (hc : cApp P ats xs h = some (y, h')) : ∀ k, k ∈ h.d → k ∈ h'.d := by
  unfold cApp at hc
  repeat' split at hc
  all_goals first | (cases hc; done) | skip
  all_goals first
    | (cases hc; exact fun _ h => h)
    | (cases hc; exact add_d)
    | (cases hc; exact wra_d)
    | (cases hc; exact wrs_d (by assumption))
theorem cCopy_d {P : Program} {ats : List TypeId} {xs : List CV} {h h' : CH} {y : CV} (hc : cCopy P ats xs h = some (y, h')) : ∀ k, k ∈ h.d → k ∈ h'.d := by
  unfold cCopy at hc
  repeat' split at hc
  all_goals first | (cases hc; done) | skip
  all_goals (cases hc; exact wrs_d (by assumption))
theorem cMake_d {P : Program} {t : TypeId} {x y z : CV} {h h' : CH} (hc : cMake P t x y h = some (z, h')) : ∀ k, k ∈ h.d → k ∈ h'.d := by
  unfold cMake at hc
  repeat' split at hc
  all_goals first | (cases hc; done) | skip
  all_goals (cases hc; exact add_d)
theorem cStore_d {P : Program} {t : TypeId} {x y : CV} {h h' : CH} (hc : cStore P t x y h = some h') : ∀ k, k ∈ h.d → k ∈ h'.d := by
  unfold cStore at hc
  repeat' split at hc
  all_goals first | (cases hc; done) | skip
  all_goals exact wrs_d hc
theorem cClear_d {P : Program} {ats : List TypeId} {xs : List CV} {h h' : CH} (hc : cClear P ats xs h = some h') : ∀ k, k ∈ h.d → k ∈ h'.d := by
  unfold cClear at hc
  repeat' split at hc
  all_goals first | (cases hc; done) | skip
  all_goals first | (cases hc; exact fun _ h => h) | exact wrs_d hc
theorem cUpdate_d {P : Program} {t : TypeId} {x i y : CV} {h h' : CH} (hc : cUpdate P t x i y h = some h') : ∀ k, k ∈ h.d → k ∈ h'.d := by
  unfold cUpdate at hc
  repeat' split at hc
  all_goals first | (cases hc; done) | skip
  all_goals (cases hc; exact wr_d)
theorem cMapEntry_d {P : Program} {t : TypeId} {x i y : CV} {h h' : CH} (hc : cMapEntry P t x i h = some (y, h')) : ∀ k, k ∈ h.d → k ∈ h'.d := by
  unfold cMapEntry at hc
  repeat' split at hc
  all_goals first | (cases hc; done) | skip
  all_goals (cases hc; exact wr_d)
theorem cEntryStore_d {x s y : CV} {h h' : CH} (hc : cEntryStore x s y h = some h') : ∀ k, k ∈ h.d → k ∈ h'.d := by
  unfold cEntryStore at hc
  repeat' split at hc
  all_goals first | (cases hc; done) | skip
  all_goals (cases hc; exact wr_d)
theorem cDelete_d {P : Program} {ats : List TypeId} {xs : List CV} {h h' : CH} (hc : cDelete P ats xs h = some h') : ∀ k, k ∈ h.d → k ∈ h'.d := by
  unfold cDelete at hc
  repeat' split at hc
  all_goals first | (cases hc; done) | skip
  all_goals (cases hc; exact wr_d)
theorem callG_d {call : Calls} {f : FuncId} {xs : List CV} {h h' : CH} {y : CV} (hc : callG call f xs h = some (y, h')) : ∀ k, k ∈ h.d → k ∈ h'.d := by
  unfold callG at hc
  repeat' split at hc
  all_goals first | (cases hc; done) | skip
  all_goals first | (cases hc; exact fun _ h => h) | (cases hc; exact fun _ h => addAll.old _ h)
theorem cCall_d {call : Calls} {P : Program} {o : Oper} {c : Call} {e : CE} {h h' : CH} {y : CV} (hc : cCall call P o c e h = some (y, h')) : ∀ k, k ∈ h.d → k ∈ h'.d := by
  unfold cCall at hc
  repeat' split at hc
  all_goals first | (cases hc; done) | skip
  all_goals first
    | exact okTy_d hc (fun _ _ h => callG_d h)
    | exact okTy_d hc (fun _ _ h => cApp_d h)
    | exact okTy_d hc (fun _ _ h => cCopy_d h)
    | exact okTy_d hc (fun _ _ h => keepH_d h)
    | exact keepH_d hc
    | (cases hc; exact cClear_d (by assumption))
    | (cases hc; exact cDelete_d (by assumption))
theorem cRange_d {P : Program} {t : TypeId} {x y : CV} {h h' : CH} (hc : cRange P t x h = some (y, h')) : ∀ k, k ∈ h.d → k ∈ h'.d := by
  unfold cRange at hc
  split at hc
  · cases hc; exact add_d
  · cases hc
theorem cOp_d {call : Calls} {P : Program} {o : Oper} {e : CE} {h h' : CH} {y : CV} (hc : cOp call P o e h = some (y, h')) : ∀ k, k ∈ h.d → k ∈ h'.d := by
  unfold cOp at hc
  split at hc
  case h_20 => exact cCall_d hc
  all_goals (repeat' split at hc)
  all_goals first | (cases hc; done) | skip
  all_goals first
    | exact keepH_d hc
    | (cases hc; exact add_d)
    | (cases hc; exact fun _ h => h)
    | exact okTy_d hc (fun _ _ h => cMake_d h)
    | exact okTy_d hc (fun _ _ h => keepH_d h)
    | exact cMapEntry_d hc
    | exact cRange_d hc
    | (unfold storeH at hc; split at hc <;> first | (cases hc; exact cStore_d (by assumption)) | (cases hc; exact cUpdate_d (by assumption)) | (cases hc; exact cEntryStore_d (by assumption)) | (cases hc; done))
end

/-! ### Rows -/
/-- Whether an operation is to be done: its guard. -/
def cGuard (all : Array Oper) (o : Oper) (e : CE) : Option Bool := match o.guard with
  | none => some true
  | some (j, want) => (match gdst all j with
    | some d => (match getE e d with
      | .bool b => some (match b, want with | true, true => true | false, false => true | _, _ => false)
      | .tup [] => some false
      | _ => none)
    | none => some false)
def cOps (call : Calls) (P : Program) (all : Array Oper) : List Oper → CE → CH → Option (CE × CH)
  | [], e, h => some (e, h)
  | o :: os, e, h => match cGuard all o e with
    | some true => (match cOp call P o e h with
      | some (y, h') => cOps call P all os (putE e o.dst y) h'
      | none => none)
    | some false => cOps call P all os (putE e o.dst und) h
    | none => none
theorem cOps_d {call : Calls} {P : Program} {all : Array Oper} : ∀ (os : List Oper) {e e' : CE} {h h' : CH}, cOps call P all os e h = some (e', h') → ∀ k, k ∈ h.d → k ∈ h'.d
  | [], _, _, _, _, hc => by cases hc; exact fun _ h => h
  | o :: os, _, _, _, _, hc => by
    simp only [cOps] at hc
    split at hc
    · split at hc
      · rename_i hy; exact fun k hk => cOps_d os hc k (cOp_d hy k hk)
      · cases hc
    · exact cOps_d os hc
    · cases hc

/-- The guard of the model's reading. -/
theorem OpG_of {all : Array Oper} {S : Oper → Env → Heap → (Value → Heap → Prop) → Prop} {o : Oper} {r : List RB} {e : CE} {ρ : Env} {H : Heap} {K : Env → Heap → Prop} (hE : ER r e ρ) {g : Bool} (hg : cGuard all o e = some g)
    (hy : g = true → S o ρ H fun v H' => K (put ρ o.dst v) H') (hn : g = false → K (put ρ o.dst undef) H) : OpG all S o ρ H K := by
  unfold cGuard at hg
  unfold OpG
  split at hg
  · rename_i h0; rw [h0]; cases hg; exact hy rfl
  · rename_i j want h0
    rw [h0]
    simp only
    split at hg
    · rename_i d hd
      rw [hd]
      simp only
      have ht := hE d
      split at hg
      · rename_i b hb
        rw [hb] at ht
        simp only [VR] at ht
        rw [ht]
        simp only
        cases hg
        cases b with
        | true =>
          simp only [IfB]
          rw [put_same ht]
          cases want with
          | true => exact hy rfl
          | false => exact hn rfl
        | false =>
          simp only [IfB]
          rw [put_same ht]
          cases want with
          | false => exact hy rfl
          | true => exact hn rfl
      · rename_i hv
        rw [hv] at ht
        obtain ⟨vs, ht, _⟩ := ht
        rw [ht]
        cases hg
        exact hn rfl
      · cases hg
    · rename_i hd
      rw [hd]
      cases hg
      exact hn rfl

def FinE (P : Program) (H0 : Heap) (r : List RB) (h : CH) (H : Heap) (e' : CE) (h' : CH) (K : Env → Heap → Prop) : Prop :=
  ∀ (r' : List RB) (H' : Heap) (ρ' : Env), Ex r h H r' h' H' → Rl P H0 r' h' H' → ER r' e' ρ' → K ρ' H'

section
variable {P : Program} {H0 : Heap}
theorem cOps.ok {call : Calls} (hC : CallOk P call) {all : Array Oper} {e' : CE} {h' : CH} {K : Env → Heap → Prop} : ∀ (os : List Oper) {r : List RB} {h : CH} {H : Heap} {e : CE} {ρ : Env}, cOps call P all os e h = some (e', h') → Rl P H0 r h H → ER r e ρ → FinE P H0 r h H e' h' K → OpsL all (OpW P) os ρ H K
  | [], r, h, H, e, ρ, hc, R, hE, hk => by cases hc; exact hk r H ρ (Ex.refl _ _ _) R hE
  | o :: os, r, h, H, e, ρ, hc, R, hE, hk => by
    simp only [cOps] at hc
    unfold OpsL
    split at hc
    · rename_i hg
      split at hc
      · rename_i y h1 hy
        refine OpG_of hE hg (fun _ => ?_) (fun h => by cases h)
        refine cOp.ok hC R hE hy fun r1 H1 v E1 R1 hv => ?_
        exact cOps.ok hC os hc R1 ((hE.mono E1.pre).put _ hv) fun r2 H2 ρ2 E2 R2 hE2 => hk r2 H2 ρ2 (E1.trans E2) R2 hE2
      · cases hc
    · rename_i hg
      refine OpG_of hE hg (fun h => by cases h) (fun _ => ?_)
      exact cOps.ok hC os hc R (hE.put _ vr_und) hk
    · cases hc

/-! ### Rows with loads that calls leave alone -/
def cOpsK (call : Calls) (P : Program) (C : List Tmp) (all : Array Oper) (h0 : CH) : List Oper → CE → CH → List Nat → Option (CE × CH × List Nat)
  | [], e, h, ks => some (e, h, ks)
  | o :: os, e, h, ks => match cGuard all o e with
    | some true => (match inC C o with
      | true => (match o.op with
        | .load t a => (match cEv e a with
          | some (.ptr k off) => (match live h0 k, cLoad P t (.ptr k off) h with
            | true, some y => cOpsK call P C all h0 os (putE e o.dst y) h (k :: ks)
            | _, _ => none)
          | _ => none)
        | _ => none)
      | false => (match cOp call P o e h with
        | some (y, h') => cOpsK call P C all h0 os (putE e o.dst y) h' ks
        | none => none))
    | some false => cOpsK call P C all h0 os (putE e o.dst und) h ks
    | none => none
theorem cOpsK_d {call : Calls} {P : Program} {C : List Tmp} {all : Array Oper} {h0 : CH} : ∀ (os : List Oper) {e e' : CE} {h h' : CH} {ks ks' : List Nat}, cOpsK call P C all h0 os e h ks = some (e', h', ks') → (∀ k, k ∈ h.d → k ∈ h'.d) ∧ ∀ k, k ∈ ks → k ∈ ks'
  | [], _, _, _, _, _, _, hc => by cases hc; exact ⟨fun _ h => h, fun _ h => h⟩
  | o :: os, _, _, _, _, _, _, hc => by
    simp only [cOpsK] at hc
    split at hc
    · split at hc
      · split at hc
        · split at hc
          · split at hc
            · obtain ⟨h1, h2⟩ := cOpsK_d os hc
              exact ⟨h1, fun k hk => h2 k (List.mem_cons_of_mem _ hk)⟩
            · cases hc
          · cases hc
        · cases hc
      · split at hc
        · rename_i hy
          obtain ⟨h1, h2⟩ := cOpsK_d os hc
          exact ⟨fun k hk => h1 k (cOp_d hy k hk), h2⟩
        · cases hc
    · exact cOpsK_d os hc
    · cases hc
def blksOf (r : List RB) (ks : List Nat) : List Nat := ks.filterMap fun k => (r[k]?).map (·.blk)
theorem mem_blks {r : List RB} {ks : List Nat} {j : Nat} : j ∈ blksOf r ks ↔ ∃ k b, k ∈ ks ∧ r[k]? = some b ∧ b.blk = j := by
  unfold blksOf
  rw [List.mem_filterMap]
  constructor
  · rintro ⟨k, hk, h⟩
    cases hb : r[k]? with
    | none => rw [hb] at h; cases h
    | some b => rw [hb] at h; cases h; exact ⟨k, b, hk, hb, rfl⟩
  · rintro ⟨k, b, hk, hb, rfl⟩
    exact ⟨k, hk, by rw [hb]; rfl⟩
/-- All that was loaded is of blocks that were there at first. -/
theorem cOpsK_live {call : Calls} {P : Program} {C : List Tmp} {all : Array Oper} {h0 : CH} : ∀ (os : List Oper) {e e' : CE} {h h' : CH} {ks ks' : List Nat}, cOpsK call P C all h0 os e h ks = some (e', h', ks') → (∀ k, k ∈ ks → live h0 k = true) → ∀ k, k ∈ ks' → live h0 k = true
  | [], _, _, _, _, _, _, hc, hl => by cases hc; exact hl
  | o :: os, _, _, _, _, _, _, hc, hl => by
    simp only [cOpsK] at hc
    split at hc
    · split at hc
      · split at hc
        · split at hc
          · split at hc
            · rename_i h1 h2
              refine cOpsK_live os hc fun k hk => ?_
              rcases List.mem_cons.1 hk with rfl | hk
              · exact h1
              · exact hl k hk
            · cases hc
          · cases hc
        · cases hc
      · split at hc
        · exact cOpsK_live os hc hl
        · cases hc
    · exact cOpsK_live os hc hl
    · cases hc

/-- Rows whose loads of some temporaries are said of the heap at first. -/
theorem cOpsK.ok {call : Calls} (hC : CallOk P call) {C : List Tmp} {all : Array Oper} {h0 : CH} {r0 : List RB} {Hs : Heap} (R0 : Rl P H0 r0 h0 Hs) (hm : h0.m = h0.n) {ksA dF : List Nat} (hks : ∀ k, k ∈ ksA → live h0 k = true ∧ k ∉ dF) :
    ∀ (os : List Oper) {r : List RB} {h h' : CH} {H : Heap} {e e' : CE} {ρ : Env} {ks ks' : List Nat} {K : Env → Heap → Prop}, cOpsK call P C all h0 os e h ks = some (e', h', ks') → (∀ k, k ∈ ks' → k ∈ ksA) → (∀ k, k ∈ h'.d → k ∈ dF) → Rl P H0 r h H → Ex r0 h0 Hs r h H → ER r e ρ →
      FinE P H0 r0 h0 Hs e' h' K → OpsL all (KeptS P C (blksOf r0 ksA) Hs) os ρ H K := by
  have key : ∀ {h : CH} {r : List RB} {H : Heap}, (∀ k, k ∈ h.d → k ∈ dF) → Ex r0 h0 Hs r h H → KeptIn (blksOf r0 ksA) Hs H := by
    intro h r H hd E b hb
    obtain ⟨k, x, hk, hx, rfl⟩ := mem_blks.1 hb
    obtain ⟨h1, h2⟩ := hks k hk
    have hlt : k < h0.m := by rw [hm, ← R0.len]; exact (List.getElem?_eq_some_iff.1 hx).1
    exact ⟨R0.thr hx h1, (E.same k x hx h1 hlt fun h => h2 (hd k h)).1⟩
  intro os
  induction os with
  | nil => intro r h h' H e e' ρ ks ks' K hc _ _ R E hE hk; cases hc; exact hk r H ρ E R hE
  | cons o os ih =>
    intro r h h' H e e' ρ ks ks' K hc hsub hdF R E hE hk
    have hd0 := cOpsK_d _ hc
    simp only [cOpsK] at hc
    unfold OpsL
    split at hc
    · rename_i hg
      refine OpG_of hE hg (fun _ => ?_) (fun h => by cases h)
      split at hc
      · rename_i hin
        split at hc
        · rename_i t a ho
          split at hc
          · rename_i k off hx
            split at hc
            · rename_i y hl hy
              have hv := hE.cev hx
              unfold KeptS
              rw [hin]
              simp only [ho]
              have hv' := hv
              simp only [VR] at hv'
              obtain ⟨b, hb, hv'⟩ := hv'
              rw [hv']
              have hkm : k ∈ ksA := hsub k ((cOpsK_d _ hc).2 k List.mem_cons_self)
              have hlt : k < h0.n := by
                unfold live at hl
                cases e1 : h0.t.get k with
                | none => rw [e1] at hl; cases hl
                | some o => exact R0.lt e1
              obtain ⟨b0, hb0⟩ := R0.at hlt
              have : b0 = b := by
                have := E.pre k b0 hb0
                rw [hb] at this; exact (Option.some.inj this).symm
              subst this
              have hbm : b0.blk ∈ blksOf r0 ksA := mem_blks.2 ⟨k, b0, hkm, hb0, rfl⟩
              refine ⟨hbm, ?_⟩
              have hsame := (key (fun j hj => hdF j (hd0.1 j hj)) E b0.blk hbm).2
              have hld : LoadW P t (ev ρ a) H (fun v _ => OpsL all (KeptS P C (blksOf r0 ksA) Hs) os (put ρ o.dst v) H K) :=
                cLoad.ok R hy hv fun w hw => ih hc hsub hdF R E (hE.put _ hw) hk
              rw [hv'] at hld
              obtain ⟨w, hw, hl2⟩ := LoadW.read hld
              refine hl2 Hs _ (fun q hq p' hp' v hv => ?_) hw
              cases hq
              simp only [Heap.cell, hp'] at hv ⊢
              rw [← hsame]; exact hv
            · cases hc
          · cases hc
        · cases hc
      · rename_i hin
        split at hc
        · rename_i y h1 hy
          unfold KeptS
          rw [hin]
          have main : OpW P o ρ H fun v H' => KeptIn (blksOf r0 ksA) Hs H' ∧ OpsL all (KeptS P C (blksOf r0 ksA) Hs) os (put ρ o.dst v) H' K := by
            refine cOp.ok hC R hE hy fun r1 H1 v E1 R1 hv => ?_
            have E' := E.trans E1
            exact ⟨key (fun j hj => hdF j ((cOpsK_d _ hc).1 j hj)) E', ih hc hsub hdF R1 E' ((hE.mono E1.pre).put _ hv) hk⟩
          simp only
          split
          · exact main
          · exact OpW.mono (fun v H' h => h.2) main
        · cases hc
    · rename_i hg
      refine OpG_of hE hg (fun h => by cases h) (fun _ => ?_)
      exact ih hc hsub hdF R E (hE.put _ vr_und) hk
    · cases hc

/-! ### Two states that are one -/
mutual
def ceq : CV → CV → Bool
  | .bool a, .bool b => (match a, b with | true, true => true | false, false => true | _, _ => false)
  | .int k a, .int k' b => (match decide (k = k'), decide (a = b) with | true, true => true | _, _ => false)
  | .str a, .str b => strEq a b
  | .ptr k o, .ptr k' o' => Nat.beq k k' && Nat.beq o o'
  | .nilp, .nilp => true
  | .sl k o n c x, .sl k' o' n' c' x' => Nat.beq k k' && Nat.beq o o' && Nat.beq n n' && Nat.beq c c' && (match x, x' with | true, true => true | false, false => true | _, _ => false)
  | .nils, .nils => true
  | .sl0, .sl0 => true
  | .mp k, .mp k' => Nat.beq k k'
  | .nilm, .nilm => true
  | .fn f cs, .fn f' cs' => Nat.beq f f' && ceqs cs cs'
  | .bnd f cs, .bnd f' cs' => Nat.beq f f' && ceqs cs cs'
  | .nilf, .nilf => true
  | .ifc t c, .ifc t' c' => Nat.beq t t' && ceq c c'
  | .nili, .nili => true
  | .agg cs, .agg cs' => ceqs cs cs'
  | .tup cs, .tup cs' => ceqs cs cs'
  | .yld k, .yld k' => Nat.beq k k'
  | .sym k, .sym k' => Nat.beq k k'
  | _, _ => false
def ceqs : List CV → List CV → Bool
  | [], [] => true
  | c :: cs, d :: ds => ceq c d && ceqs cs ds
  | _, _ => false
end
theorem bm {a b : Bool} (h : (match a, b with | true, true => true | false, false => true | _, _ => false) = true) : a = b := by cases a <;> cases b <;> simp_all
mutual
theorem ceq.ok : ∀ (a b : CV), ceq a b = true → a = b
  | .bool a, b, h => by cases b <;> simp only [ceq] at h <;> first | (cases h; done) | (rw [bm h])
  | .int k a, b, h => by
    cases b <;> simp only [ceq] at h <;> first | (cases h; done) | skip
    split at h
    · rename_i h1 h2; rw [of_decide_eq_true h1, of_decide_eq_true h2]
    · cases h
  | .str a, b, h => by
    cases b <;> simp only [ceq] at h <;> first | (cases h; done) | skip
    rw [strEq_eq] at h
    rw [eq_of_beq h]
  | .ptr k o, b, h => by
    cases b <;> simp only [ceq] at h <;> first | (cases h; done) | skip
    simp only [Bool.and_eq_true] at h
    rw [beq_true h.1, beq_true h.2]
  | .nilp, b, h => by cases b <;> simp only [ceq] at h <;> first | (cases h; done) | rfl
  | .sl k o n c x, b, h => by
    cases b <;> simp only [ceq] at h <;> first | (cases h; done) | skip
    simp only [Bool.and_eq_true] at h
    obtain ⟨⟨⟨⟨h1, h2⟩, h3⟩, h4⟩, h5⟩ := h
    rw [beq_true h1, beq_true h2, beq_true h3, beq_true h4, bm h5]
  | .nils, b, h => by cases b <;> simp only [ceq] at h <;> first | (cases h; done) | rfl
  | .sl0, b, h => by cases b <;> simp only [ceq] at h <;> first | (cases h; done) | rfl
  | .mp k, b, h => by cases b <;> simp only [ceq] at h <;> first | (cases h; done) | (rw [beq_true h])
  | .nilm, b, h => by cases b <;> simp only [ceq] at h <;> first | (cases h; done) | rfl
  | .fn f cs, b, h => by
    cases b <;> simp only [ceq] at h <;> first | (cases h; done) | skip
    simp only [Bool.and_eq_true] at h
    rw [beq_true h.1, ceqs.ok _ _ h.2]
  | .bnd f cs, b, h => by
    cases b <;> simp only [ceq] at h <;> first | (cases h; done) | skip
    simp only [Bool.and_eq_true] at h
    rw [beq_true h.1, ceqs.ok _ _ h.2]
  | .nilf, b, h => by cases b <;> simp only [ceq] at h <;> first | (cases h; done) | rfl
  | .ifc t c, b, h => by
    cases b <;> simp only [ceq] at h <;> first | (cases h; done) | skip
    simp only [Bool.and_eq_true] at h
    rw [beq_true h.1, ceq.ok _ _ h.2]
  | .nili, b, h => by cases b <;> simp only [ceq] at h <;> first | (cases h; done) | rfl
  | .agg cs, b, h => by
    cases b <;> simp only [ceq] at h <;> first | (cases h; done) | skip
    rw [ceqs.ok _ _ h]
  | .tup cs, b, h => by
    cases b <;> simp only [ceq] at h <;> first | (cases h; done) | skip
    rw [ceqs.ok _ _ h]
  | .opq v, b, h => by cases b <;> simp only [ceq] at h <;> cases h
  | .yld k, b, h => by cases b <;> simp only [ceq] at h <;> first | (cases h; done) | (rw [beq_true h])
  | .sym k, b, h => by cases b <;> simp only [ceq] at h <;> first | (cases h; done) | (rw [beq_true h])
theorem ceqs.ok : ∀ (a b : List CV), ceqs a b = true → a = b
  | [], b, h => by cases b <;> simp only [ceqs] at h <;> first | (cases h; done) | rfl
  | c :: cs, b, h => by
    cases b <;> simp only [ceqs] at h <;> first | (cases h; done) | skip
    simp only [Bool.and_eq_true] at h
    rw [ceq.ok _ _ h.1, ceqs.ok _ _ h.2]
end
def teq {α : Type} (q : α → α → Bool) : Tr α → Tr α → Bool
  | .e, .e => true
  | .n v l r, .n v' l' r' => (match v, v' with
    | none, none => true
    | some a, some b => q a b
    | _, _ => false) && teq q l l' && teq q r r'
  | _, _ => false
theorem teq.ok {α : Type} {q : α → α → Bool} (hq : ∀ a b, q a b = true → a = b) : ∀ (s t : Tr α), teq q s t = true → s = t
  | .e, t, h => by cases t <;> simp only [teq] at h <;> first | (cases h; done) | rfl
  | .n v l r, t, h => by
    cases t <;> simp only [teq] at h <;> first | (cases h; done) | skip
    rename_i v' l' r'
    simp only [Bool.and_eq_true] at h
    obtain ⟨⟨h1, h2⟩, h3⟩ := h
    rw [teq.ok hq _ _ h2, teq.ok hq _ _ h3]
    cases v <;> cases v' <;> simp only at h1 <;> first | (cases h1; done) | rfl | rw [hq _ _ h1]
def eeq : List (CV × CV × Nat) → List (CV × CV × Nat) → Bool
  | [], [] => true
  | (a, b, n) :: l, (a', b', n') :: l' => ceq a a' && ceq b b' && Nat.beq n n' && eeq l l'
  | _, _ => false
theorem eeq.ok : ∀ (a b : List (CV × CV × Nat)), eeq a b = true → a = b
  | [], b, h => by cases b <;> simp only [eeq] at h <;> first | (cases h; done) | rfl
  | (a, c, n) :: l, b, h => by
    cases b <;> simp only [eeq] at h <;> first | (cases h; done) | skip
    simp only [Bool.and_eq_true] at h
    obtain ⟨⟨⟨h1, h2⟩, h3⟩, h4⟩ := h
    rw [ceq.ok _ _ h1, ceq.ok _ _ h2, beq_true h3, eeq.ok _ _ h4]
def oeq : CObj → CObj → Bool
  | .cells n d t T, .cells n' d' t' T' => Nat.beq n n' && ceq d d' && teq ceq t t' && Nat.beq T T'
  | .map es c, .map es' c' => eeq es es' && Nat.beq c c'
  | .gone, .gone => true
  | _, _ => false
theorem oeq.ok : ∀ (a b : CObj), oeq a b = true → a = b
  | .cells n d t T, b, h => by
    cases b <;> simp only [oeq] at h <;> first | (cases h; done) | skip
    simp only [Bool.and_eq_true] at h
    obtain ⟨⟨⟨h1, h2⟩, h3⟩, h4⟩ := h
    rw [beq_true h1, ceq.ok _ _ h2, teq.ok ceq.ok _ _ h3, beq_true h4]
  | .map es c, b, h => by
    cases b <;> simp only [oeq] at h <;> first | (cases h; done) | skip
    simp only [Bool.and_eq_true] at h
    rw [eeq.ok _ _ h.1, beq_true h.2]
  | .gone, b, h => by cases b <;> simp only [oeq] at h <;> first | (cases h; done) | rfl
  | .loop .., b, h => by cases b <;> simp only [oeq] at h <;> cases h
  | .iter .., b, h => by cases b <;> simp only [oeq] at h <;> cases h
def neq : List Nat → List Nat → Bool
  | [], [] => true
  | a :: l, b :: l' => Nat.beq a b && neq l l'
  | _, _ => false
theorem neq.ok : ∀ (a b : List Nat), neq a b = true → a = b
  | [], b, h => by cases b <;> simp only [neq] at h <;> first | (cases h; done) | rfl
  | a :: l, b, h => by
    cases b <;> simp only [neq] at h <;> first | (cases h; done) | skip
    simp only [Bool.and_eq_true] at h
    rw [beq_true h.1, neq.ok _ _ h.2]
def heq' (h h' : CH) : Bool := Nat.beq h.n h'.n && Nat.beq h.m h'.m && neq h.d h'.d && teq oeq h.t h'.t
theorem heq'.ok {h h' : CH} (e : heq' h h' = true) : h = h' := by
  unfold heq' at e
  simp only [Bool.and_eq_true] at e
  obtain ⟨⟨⟨h1, h2⟩, h3⟩, h4⟩ := e
  obtain ⟨n, t, m, d⟩ := h
  obtain ⟨n', t', m', d'⟩ := h'
  simp only at h1 h2 h3 h4
  rw [beq_true h1, beq_true h2, neq.ok _ _ h3, teq.ok oeq.ok _ _ h4]

/-! ### Two states that are one, but for a block's place -/
/-- The block at j of the one is the block at i of the other; those between stand one place further on. -/
def qn (i j k : Nat) : Nat := match Nat.blt k i with
  | true => k
  | false => match Nat.blt k j with
    | true => k + 1
    | false => match Nat.beq k j with
      | true => i
      | false => k
def veq : Value → Value → Bool
  | .complex k a b, .complex k' a' b' => decide (k = k') && Nat.beq a a' && Nat.beq b b'
  | .float k a, .float k' a' => decide (k = k') && Nat.beq a a'
  | _, _ => false
theorem veq.ok {u w : Value} (h : veq u w = true) : u = w := by
  unfold veq at h
  split at h
  · simp only [Bool.and_eq_true] at h
    rw [of_decide_eq_true h.1.1, beq_true h.1.2, beq_true h.2]
  · simp only [Bool.and_eq_true] at h
    rw [of_decide_eq_true h.1, beq_true h.2]
  · cases h
mutual
def cal (i j : Nat) : CV → CV → Bool
  | .opq u, .opq u' => veq u u'
  | .ptr k o, .ptr k' o' => Nat.beq k (qn i j k') && Nat.beq o o'
  | .sl k o n c x, .sl k' o' n' c' x' => Nat.beq k (qn i j k') && Nat.beq o o' && Nat.beq n n' && Nat.beq c c' && (match x, x' with | true, true => true | false, false => true | _, _ => false)
  | .mp k, .mp k' => Nat.beq k (qn i j k')
  | .yld k, .yld k' => Nat.beq k (qn i j k')
  | .fn f cs, .fn f' cs' => Nat.beq f f' && cals i j cs cs'
  | .bnd f cs, .bnd f' cs' => Nat.beq f f' && cals i j cs cs'
  | .ifc t c, .ifc t' c' => Nat.beq t t' && cal i j c c'
  | .agg cs, .agg cs' => cals i j cs cs'
  | .tup cs, .tup cs' => cals i j cs cs'
  | .bool a, c => ceq (.bool a) c
  | .int k a, c => ceq (.int k a) c
  | .str a, c => ceq (.str a) c
  | .nilp, c => ceq .nilp c
  | .nils, c => ceq .nils c
  | .sl0, c => ceq .sl0 c
  | .nilm, c => ceq .nilm c
  | .nilf, c => ceq .nilf c
  | .nili, c => ceq .nili c
  | .sym k, c => ceq (.sym k) c
  | _, _ => false
def cals (i j : Nat) : List CV → List CV → Bool
  | [], [] => true
  | c :: cs, d :: ds => cal i j c d && cals i j cs ds
  | _, _ => false
end
section
variable {i j : Nat} {r3 r1 : List RB}
mutual
theorem VR.al (hr : ∀ k, r1[k]? = r3[qn i j k]?) : ∀ (c c' : CV) (v : Value), cal i j c c' = true → VR r3 c v → VR r1 c' v
  | .ptr k o, c', v, h, e => by
    cases c' <;> simp only [cal] at h <;> first | (cases h; done) | skip
    simp only [Bool.and_eq_true] at h
    obtain ⟨b, hb, e⟩ := e
    rw [beq_true h.1] at hb
    rw [beq_true h.2] at e
    exact ⟨b, (hr _).trans hb, e⟩
  | .sl k o n c x, c', v, h, e => by
    cases c' <;> simp only [cal] at h <;> first | (cases h; done) | skip
    simp only [Bool.and_eq_true] at h
    obtain ⟨⟨⟨⟨h1, h2⟩, h3⟩, h4⟩, h5⟩ := h
    obtain ⟨b, hb, e⟩ := e
    rw [beq_true h1] at hb
    rw [beq_true h2, beq_true h3, beq_true h4, bm h5] at e
    exact ⟨b, (hr _).trans hb, e⟩
  | .mp k, c', v, h, e => by
    cases c' <;> simp only [cal] at h <;> first | (cases h; done) | skip
    obtain ⟨b, hb, e⟩ := e
    rw [beq_true h] at hb
    exact ⟨b, (hr _).trans hb, e⟩
  | .yld k, c', v, h, e => by
    cases c' <;> simp only [cal] at h <;> first | (cases h; done) | skip
    obtain ⟨b, hb, e⟩ := e
    rw [beq_true h] at hb
    exact ⟨b, (hr _).trans hb, e⟩
  | .fn f cs, c', v, h, e => by
    cases c' <;> simp only [cal] at h <;> first | (cases h; done) | skip
    simp only [Bool.and_eq_true] at h
    simp only [VR] at e ⊢
    obtain ⟨vs, e, hs⟩ := e
    rw [beq_true h.1] at e
    exact ⟨vs, e, VRs.al hr _ _ _ h.2 hs⟩
  | .bnd f cs, c', v, h, e => by
    cases c' <;> simp only [cal] at h <;> first | (cases h; done) | skip
    simp only [Bool.and_eq_true] at h
    simp only [VR] at e ⊢
    obtain ⟨u, us, e, hs⟩ := e
    rw [beq_true h.1] at e
    exact ⟨u, us, e, VRs.al hr _ _ _ h.2 hs⟩
  | .ifc t c, c', v, h, e => by
    cases c' <;> simp only [cal] at h <;> first | (cases h; done) | skip
    simp only [Bool.and_eq_true] at h
    simp only [VR] at e ⊢
    obtain ⟨w, e, hs⟩ := e
    rw [beq_true h.1] at e
    exact ⟨w, e, VR.al hr _ _ _ h.2 hs⟩
  | .agg cs, c', v, h, e => by
    cases c' <;> simp only [cal] at h <;> first | (cases h; done) | skip
    simp only [VR] at e ⊢
    obtain ⟨vs, e, hs⟩ := e
    exact ⟨vs, e, VRs.al hr _ _ _ h hs⟩
  | .tup cs, c', v, h, e => by
    cases c' <;> simp only [cal] at h <;> first | (cases h; done) | skip
    simp only [VR] at e ⊢
    obtain ⟨vs, e, hs⟩ := e
    exact ⟨vs, e, VRs.al hr _ _ _ h hs⟩
  | .bool a, c', v, h, e => by simp only [cal] at h; have := ceq.ok _ _ h; subst this; exact e
  | .int k a, c', v, h, e => by simp only [cal] at h; have := ceq.ok _ _ h; subst this; exact e
  | .str a, c', v, h, e => by simp only [cal] at h; have := ceq.ok _ _ h; subst this; exact e
  | .nilp, c', v, h, e => by simp only [cal] at h; have := ceq.ok _ _ h; subst this; exact e
  | .nils, c', v, h, e => by simp only [cal] at h; have := ceq.ok _ _ h; subst this; exact e
  | .sl0, c', v, h, e => by simp only [cal] at h; have := ceq.ok _ _ h; subst this; exact e
  | .nilm, c', v, h, e => by simp only [cal] at h; have := ceq.ok _ _ h; subst this; exact e
  | .nilf, c', v, h, e => by simp only [cal] at h; have := ceq.ok _ _ h; subst this; exact e
  | .nili, c', v, h, e => by simp only [cal] at h; have := ceq.ok _ _ h; subst this; exact e
  | .sym k, c', v, h, e => by simp only [cal] at h; have := ceq.ok _ _ h; subst this; exact e
  | .opq u, c', v, h, e => by
    cases c' <;> simp only [cal] at h <;> first | (cases h; done) | skip
    rw [← veq.ok h]; exact e
theorem VRs.al (hr : ∀ k, r1[k]? = r3[qn i j k]?) : ∀ (cs ds : List CV) (vs : List Value), cals i j cs ds = true → VRs r3 cs vs → VRs r1 ds vs
  | [], ds, vs, h, e => by
    cases ds <;> simp only [cals] at h <;> first | (cases h; done) | exact e
  | c :: cs, ds, vs, h, e => by
    cases ds <;> simp only [cals] at h <;> first | (cases h; done) | skip
    simp only [Bool.and_eq_true] at h
    simp only [VRs] at e ⊢
    obtain ⟨v, us, e, h1, h2⟩ := e
    exact ⟨v, us, e, VR.al hr _ _ _ h.1 h1, VRs.al hr _ _ _ h.2 h2⟩
end
end
theorem teq.get {α : Type} {q : α → α → Bool} : ∀ (s t : Tr α), teq q s t = true → ∀ k, (s.get k = none ∧ t.get k = none) ∨ ∃ a b, s.get k = some a ∧ t.get k = some b ∧ q a b = true
  | .e, t, h, k => by
    cases t <;> simp only [teq] at h <;> first | (cases h; done) | exact .inl ⟨rfl, rfl⟩
  | .n v l r, t, h, k => by
    cases t <;> simp only [teq] at h <;> first | (cases h; done) | skip
    rename_i v' l' r'
    simp only [Bool.and_eq_true] at h
    obtain ⟨⟨h1, h2⟩, h3⟩ := h
    rw [Tr.get_n, Tr.get_n]
    by_cases e : k = 0
    · rw [if_pos e, if_pos e]
      cases v <;> cases v' <;> simp only at h1 <;> first | (cases h1; done) | exact .inl ⟨rfl, rfl⟩ | exact .inr ⟨_, _, rfl, rfl, h1⟩
    · rw [if_neg e, if_neg e]
      by_cases e1 : k % 2 = 1
      · rw [if_pos e1, if_pos e1]; exact teq.get l l' h2 _
      · rw [if_neg e1, if_neg e1]; exact teq.get r r' h3 _
def eal (i j : Nat) : List (CV × CV × Nat) → List (CV × CV × Nat) → Bool
  | [], [] => true
  | (a, b, n) :: l, (a', b', n') :: l' => cal i j a a' && cal i j b b' && Nat.beq n n' && eal i j l l'
  | _, _ => false
def oal (i j : Nat) : CObj → CObj → Bool
  | .cells n d t T, .cells n' d' t' T' => Nat.beq n n' && cal i j d d' && teq (cal i j) t t' && Nat.beq T T'
  | .map es c, .map es' c' => eal i j es es' && Nat.beq c c'
  | .gone, .gone => true
  | _, _ => false
def oalO (i j : Nat) : Option CObj → Option CObj → Bool
  | none, none => true
  | some a, some b => oal i j a b
  | _, _ => false
def oals (i j : Nat) (t3 t2 : Tr CObj) : Nat → Bool
  | 0 => true
  | n + 1 => oalO i j (t3.get (qn i j n)) (t2.get n) && oals i j t3 t2 n
theorem oals.ok {i j : Nat} {t3 t2 : Tr CObj} : ∀ {n : Nat}, oals i j t3 t2 n = true → ∀ k, k < n → oalO i j (t3.get (qn i j k)) (t2.get k) = true
  | 0, _, k, hk => by omega
  | n + 1, h, k, hk => by
    simp only [oals, Bool.and_eq_true] at h
    by_cases e : k = n
    · subst e; exact h.1
    · exact oals.ok h.2 k (by omega)
theorem blt_true {a b : Nat} (h : Nat.blt a b = true) : a < b := by rw [Nat.blt_eq] at h; exact h
theorem blt_false {a b : Nat} (h : Nat.blt a b = false) : ¬ a < b := fun hl => by
  rw [show Nat.blt a b = true by rw [Nat.blt_eq]; exact hl] at h; cases h
/-- No block stands behind the last one. -/
def topT (n a b : Nat) : Tr CObj → Bool
  | .e => true
  | .n v l r => (match v with
    | none => true
    | some _ => Nat.blt b n) && topT n (2 * a) (a + b) l && topT n (2 * a) (2 * a + b) r
theorem topT.ok {n : Nat} : ∀ (t : Tr CObj) (a b k : Nat) (o : CObj), topT n a b t = true → t.get k = some o → a * k + b < n
  | .e, a, b, k, o, _, h => by cases h
  | .n v l r, a, b, k, o, h, hk => by
    simp only [topT, Bool.and_eq_true] at h
    obtain ⟨⟨h1, h2⟩, h3⟩ := h
    rw [Tr.get_n] at hk
    split at hk
    · rename_i e
      subst e hk
      have := blt_true h1
      omega
    · rename_i e
      split at hk
      · rename_i e1
        have := topT.ok l _ _ _ _ h2 hk
        have e2 : k = 2 * ((k - 1) / 2) + 1 := by omega
        generalize (k - 1) / 2 = q at this e2
        subst e2
        have : a * (2 * q + 1) = 2 * a * q + a := by rw [Nat.mul_add, Nat.mul_one, ← Nat.mul_assoc, Nat.mul_comm a 2]
        omega
      · rename_i e1
        have := topT.ok r _ _ _ _ h3 hk
        have e2 : k = 2 * ((k - 1) / 2) + 2 := by omega
        generalize (k - 1) / 2 = q at this e2
        subst e2
        have : a * (2 * q + 2) = 2 * a * q + 2 * a := by rw [Nat.mul_add, ← Nat.mul_assoc, Nat.mul_comm a 2]
        omega
def alike (i j : Nat) (e3 : CE) (h3 : CH) (e2 : CE) (h2 : CH) : Bool :=
  Nat.ble i j && Nat.blt j h2.n && Nat.beq h3.n h2.n && Nat.beq h3.m h2.m && neq h3.d h2.d && teq (cal i j) e3 e2 && oals i j h3.t h2.t h2.n && topT h2.n 1 0 h2.t
section
variable {i j : Nat} {r3 r1 : List RB}
theorem MR.al (hr : ∀ k, r1[k]? = r3[qn i j k]?) : ∀ (es es' : List (CV × CV × Nat)) (ms : List MapEntry), eal i j es es' = true → MR r3 es ms → MR r1 es' ms
  | [], es', ms, h, e => by
    cases es' <;> simp only [eal] at h <;> first | (cases h; done) | exact e
  | (a, b, n) :: es, es', ms, h, e => by
    cases es' <;> simp only [eal] at h <;> first | (cases h; done) | skip
    simp only [Bool.and_eq_true] at h
    obtain ⟨⟨⟨h1, h2⟩, h3⟩, h4⟩ := h
    simp only [MR] at e ⊢
    obtain ⟨m, us, e, g1, g2, g3, g4⟩ := e
    exact ⟨m, us, e, VR.al hr _ _ _ h1 g1, VR.al hr _ _ _ h2 g2, g3.trans (beq_true h3), MR.al hr _ _ _ h4 g4⟩
theorem BR.al {P : Program} {b : RB} {H : Heap} (hr : ∀ k, r1[k]? = r3[qn i j k]?) : ∀ (o o' : CObj), oal i j o o' = true → BR P r3 b H o → BR P r1 b H o'
  | .cells n d t T, o', h, e => by
    cases o' <;> simp only [oal] at h <;> first | (cases h; done) | skip
    rename_i n' d' t' T'
    simp only [Bool.and_eq_true] at h
    obtain ⟨⟨⟨h1, h2⟩, h3⟩, h4⟩ := h
    have en := beq_true h1
    have eT := beq_true h4
    subst en eT
    obtain ⟨c, g1, g2, g3⟩ := e
    refine ⟨c, g1, g2, fun k hk => ?_⟩
    obtain ⟨v, hv, e⟩ := g3 k hk
    refine ⟨v, hv, ?_⟩
    unfold atC at e ⊢
    rcases teq.get _ _ h3 k with ⟨q1, q2⟩ | ⟨x, y, q1, q2, q3⟩
    · rw [q1] at e; rw [q2]; exact VR.al hr _ _ _ h2 e
    · rw [q1] at e; rw [q2]; exact VR.al hr _ _ _ q3 e
  | .map es ck, o', h, e => by
    cases o' <;> simp only [oal] at h <;> first | (cases h; done) | skip
    simp only [Bool.and_eq_true] at h
    obtain ⟨ms, g1, g2⟩ := e
    rw [beq_true h.2] at g1
    exact ⟨ms, g1, MR.al hr _ _ _ h.1 g2⟩
  | .gone, o', h, e => by
    cases o' <;> simp only [oal] at h <;> first | (cases h; done) | trivial
  | .loop .., o', h, e => by
    cases o' <;> simp only [oal] at h <;> cases h
  | .iter .., o', h, e => by
    cases o' <;> simp only [oal] at h <;> cases h
end
theorem qn_lo {i j k : Nat} (h : k < i) : qn i j k = k := by
  unfold qn
  rw [show Nat.blt k i = true by rw [Nat.blt_eq]; exact h]
theorem qn_cases (i j k : Nat) : (k < i ∧ qn i j k = k) ∨ (i ≤ k ∧ k < j ∧ qn i j k = k + 1) ∨ (i ≤ k ∧ k = j ∧ qn i j k = i) ∨ (i ≤ k ∧ j < k ∧ qn i j k = k) := by
  unfold qn
  split
  · rename_i h; exact .inl ⟨blt_true h, rfl⟩
  · rename_i h
    have h := blt_false h
    split
    · rename_i h2; exact .inr (.inl ⟨by omega, blt_true h2, rfl⟩)
    · rename_i h2
      have h2 := blt_false h2
      split
      · rename_i h3; exact .inr (.inr (.inl ⟨by omega, beq_true h3, rfl⟩))
      · rename_i h3
        have := beq_false h3
        exact .inr (.inr (.inr ⟨by omega, by omega, rfl⟩))
theorem qn_inj {i j k k' : Nat} (hij : i ≤ j) (h : qn i j k = qn i j k') : k = k' := by
  rcases qn_cases i j k with ⟨a, e⟩ | ⟨a, b, e⟩ | ⟨a, b, e⟩ | ⟨a, b, e⟩ <;> rcases qn_cases i j k' with ⟨a', e'⟩ | ⟨a', b', e'⟩ | ⟨a', b', e'⟩ | ⟨a', b', e'⟩ <;> rw [e, e'] at h <;> omega
theorem rebase {P : Program} {H0 : Heap} {i j : Nat} {r0 r3 : List RB} {h0 h3 h2 : CH} {Hs H3 : Heap} {e3 e2 : CE} {ρ : Env} (hl : r0.length ≤ i) (ha : alike i j e3 h3 e2 h2 = true)
    (E : Ex r0 h0 Hs r3 h3 H3) (R : Rl P H0 r3 h3 H3) (hE : ER r3 e3 ρ) : ∃ r1, Ex r0 h0 Hs r1 h2 H3 ∧ Rl P H0 r1 h2 H3 ∧ ER r1 e2 ρ := by
  unfold alike at ha
  simp only [Bool.and_eq_true] at ha
  obtain ⟨⟨⟨⟨⟨⟨⟨a1, a2⟩, a3⟩, a4⟩, a5⟩, a6⟩, a7⟩, a8⟩ := ha
  have hij : i ≤ j := Nat.le_of_ble_eq_true a1
  have hj : j < h2.n := blt_true a2
  have hn := beq_true a3
  have hm := beq_true a4
  have hd := neq.ok _ _ a5
  have ho := oals.ok a7
  have hlen := R.len
  have hr : ∀ k, ((List.range h2.n).map fun k => r3.getD (qn i j k) ⟨0, 0, 0⟩)[k]? = r3[qn i j k]? := fun k => by
    by_cases hk : k < h2.n
    · have hq : qn i j k < r3.length := by
        rcases qn_cases i j k with ⟨a, e⟩ | ⟨a, b, e⟩ | ⟨a, b, e⟩ | ⟨a, b, e⟩ <;> rw [e] <;> omega
      rw [List.getElem?_map, List.getElem?_range hk]
      simp [List.getD, List.getElem?_eq_getElem hq]
    · have hq : qn i j k = k := by
        rcases qn_cases i j k with ⟨a, e⟩ | ⟨a, b, e⟩ | ⟨a, b, e⟩ | ⟨a, b, e⟩ <;> omega
      rw [hq, List.getElem?_eq_none (by simp; omega), List.getElem?_eq_none (by omega)]
  refine ⟨(List.range h2.n).map fun k => r3.getD (qn i j k) ⟨0, 0, 0⟩, ⟨fun k b hk => ?_, hm ▸ E.m, fun k hk => hd ▸ E.d k hk, fun k b hk hv hm' hd' => ?_⟩, ⟨by simp, fun k hk => ?_, fun k b o hk hko => ?_, fun k k' b b' hk hk' hv hv' e => ?_, fun k b hk => ?_, R.fr, R.good⟩, fun t => ?_⟩
  · have : k < r0.length := (List.getElem?_eq_some_iff.1 hk).1
    rw [hr, qn_lo (by omega)]
    exact E.pre k b hk
  · have hlt : k < r0.length := (List.getElem?_eq_some_iff.1 hk).1
    obtain ⟨s1, s2⟩ := E.same k b hk hv hm' (by rw [hd]; exact hd')
    refine ⟨s1, ?_⟩
    have h3len : k < r3.length := (List.getElem?_eq_some_iff.1 (E.pre k b hk)).1
    have := ho k (by omega)
    rw [qn_lo (by omega)] at this
    unfold live at s2 ⊢
    cases h3k : h3.t.get k with
    | none => rw [h3k] at s2; cases s2
    | some o =>
      rw [h3k] at this s2
      cases h2k : h2.t.get k with
      | none => rw [h2k] at this; cases this
      | some o' =>
        rw [h2k] at this
        cases o <;> cases o' <;> simp only [oalO, oal] at this <;> first | (cases this; done) | (simp only [liveO] at s2; cases s2; done) | rfl
  · cases hg : h2.t.get k with
    | none => rfl
    | some o =>
      have := topT.ok _ _ _ _ _ a8 hg
      omega
  · rw [hr] at hk
    have hq : qn i j k < r3.length := (List.getElem?_eq_some_iff.1 hk).1
    have hkn : k < h2.n := by
      rcases qn_cases i j k with ⟨a, e⟩ | ⟨a, b, e⟩ | ⟨a, b, e⟩ | ⟨a, b, e⟩ <;> omega
    have := ho k hkn
    rw [hko] at this
    cases h3k : h3.t.get (qn i j k) with
    | none => rw [h3k] at this; cases this
    | some o3 => rw [h3k] at this; exact BR.al hr _ _ this (R.blk _ b o3 hk h3k)
  · rw [hr] at hk hk'
    have lv : ∀ {k : Nat} {b : RB}, r3[qn i j k]? = some b → live h2 k = true → live h3 (qn i j k) = true := fun {k b} hk hv => by
      have hq : qn i j k < r3.length := (List.getElem?_eq_some_iff.1 hk).1
      have hkn : k < h2.n := by
        rcases qn_cases i j k with ⟨a, e⟩ | ⟨a, b, e⟩ | ⟨a, b, e⟩ | ⟨a, b, e⟩ <;> omega
      have := ho k hkn
      unfold live at hv ⊢
      cases h2k : h2.t.get k with
      | none => rw [h2k] at hv; cases hv
      | some o' =>
        rw [h2k] at this hv
        cases h3k : h3.t.get (qn i j k) with
        | none => rw [h3k] at this; cases this
        | some o =>
          rw [h3k] at this
          cases o <;> cases o' <;> simp only [oalO, oal] at this <;> first | (cases this; done) | (simp only [liveO] at hv; cases hv; done) | rfl
    exact qn_inj hij (R.inj _ _ b b' hk hk' (lv hk hv) (lv hk' hv') e)
  · rw [hr] at hk
    exact R.new _ b hk
  · have := hE t
    unfold getE at this ⊢
    rcases teq.get _ _ a6 t with ⟨q1, q2⟩ | ⟨x, y, q1, q2, q3⟩
    · rw [q1] at this; rw [q2]; exact VR.al hr und und _ (by rfl) this
    · rw [q1] at this; rw [q2]; exact VR.al hr _ _ _ q3 this

theorem OpG.monoS {all : Array Oper} {S S' : Oper → Env → Heap → (Value → Heap → Prop) → Prop} (hS : ∀ o ρ H K, S o ρ H K → S' o ρ H K) {o : Oper} {ρ : Env} {H : Heap} {K : Env → Heap → Prop} (h : OpG all S o ρ H K) : OpG all S' o ρ H K := by
  unfold OpG at *
  split at h
  · exact hS _ _ _ _ h
  · split at h
    · split at h
      · refine IfB.mono h (fun h => ?_) (fun h => ?_)
        · split at h
          · exact hS _ _ _ _ h
          · exact h
        · split at h
          · exact hS _ _ _ _ h
          · exact h
      · exact h
    · exact h
theorem OpsL.monoS {all : Array Oper} {S S' : Oper → Env → Heap → (Value → Heap → Prop) → Prop} (N : Nice S) (hS : ∀ o ρ H K, S o ρ H K → S' o ρ H K) : ∀ {l : List Oper} {ρ : Env} {H : Heap} {K : Env → Heap → Prop}, OpsL all S l ρ H K → OpsL all S' l ρ H K
  | [], _, _, _, h => h
  | _ :: _, _, _, _, h => OpG.monoS hS (OpG.mono N (fun _ _ h => OpsL.monoS N hS h) h)
theorem OpsT.monoS {all : Array Oper} {S S' : Oper → Env → Heap → (Value → Heap → Prop) → Prop} (N : Nice S) (hS : ∀ o ρ H K, S o ρ H K → S' o ρ H K) {a : Nat} {post Y : List Nat} {K : Env → Heap → Prop} : ∀ {pre : List Nat} {ρ : Env} {H : Heap}, OpsT all S a post Y K pre ρ H → OpsT all S' a post Y K pre ρ H
  | [], _, _, h => OpsL.monoS N hS h
  | x :: t, _, _, h => by
    unfold OpsT at h ⊢
    split at h
    · exact ⟨OpsL.monoS N hS h.1, OpsL.monoS N hS (OpsL.mono N (fun _ _ h => OpsT.monoS N hS h) _ _ _ h.2)⟩
    · exact OpsL.monoS N hS (OpsL.mono N (fun _ _ h => OpsT.monoS N hS h) _ _ _ h)
theorem kept_nil {bs : List Nat} {H0 : Heap} (o : Oper) (ρ : Env) (H : Heap) (K : Value → Heap → Prop) (h : KeptS P [] bs H0 o ρ H K) : OpW P o ρ H K := by
  unfold KeptS at h
  have : inC [] o = false := by unfold inC; split <;> rfl
  rw [this] at h
  simp only at h
  split at h
  · exact OpW.mono (fun _ _ h => h.2) h
  · exact h

theorem alike.d {i j : Nat} {e3 e2 : CE} {h3 h2 : CH} (ha : alike i j e3 h3 e2 h2 = true) : h3.d = h2.d := by
  unfold alike at ha
  simp only [Bool.and_eq_true] at ha
  exact neq.ok _ _ ha.1.1.1.2
theorem Pre.len {r r' : List RB} (h : Pre r r') : r.length ≤ r'.length := by
  cases hn : r.length with
  | zero => omega
  | succ n =>
    have hlt : n < r.length := by omega
    have := h n _ (List.getElem?_eq_getElem hlt)
    have := (List.getElem?_eq_some_iff.1 this).1
    omega
/-- A new block that stands in no order with calls: both orders, which must come to the same. -/
def cTree (call : Calls) (P : Program) (C : List Tmp) (all : Array Oper) (h0 : CH) (a : Nat) (post Y : List Nat) : List Nat → CE → CH → List Nat → Option (CE × CH × List Nat × List Nat × Nat)
  | [], e, h, ks => (match cOpsK call P C all h0 (opsAt all (a :: post)) e h ks with
    | some (e1, h1, k1) => some (e1, h1, k1, k1, h.n)
    | none => none)
  | x :: t, e, h, ks => match cOpsK call P C all h0 (opsAt all [x]) e h ks with
    | none => none
    | some (e1, h1, k1) => match cTree call P C all h0 a post Y t e1 h1 k1 with
      | none => none
      | some (e2, h2, k2, kA, j) => match memB x Y with
        | false => some (e2, h2, k2, kA, j)
        | true => match cOpsK call P C all h0 (opsAt all (a :: x :: (t ++ post))) e h ks with
          | none => none
          | some (e3, h3, k3) => match alike h.n j e3 h3 e2 h2 with
            | true => some (e2, h2, k2, k3 ++ kA, j)
            | false => none
theorem cTree_d {call : Calls} {C : List Tmp} {all : Array Oper} {h0 : CH} {a : Nat} {post Y : List Nat} : ∀ (pre : List Nat) {e e' : CE} {h h' : CH} {ks k2 kA : List Nat} {j : Nat}, cTree call P C all h0 a post Y pre e h ks = some (e', h', k2, kA, j) → (∀ k, k ∈ h.d → k ∈ h'.d) ∧ (∀ k, k ∈ ks → k ∈ kA) ∧ ((∀ k, k ∈ ks → live h0 k = true) → ∀ k, k ∈ kA → live h0 k = true)
  | [], _, _, _, _, _, _, _, _, hc => by
    simp only [cTree] at hc
    split at hc
    · rename_i h1
      cases hc
      obtain ⟨q1, q2⟩ := cOpsK_d _ h1
      exact ⟨q1, q2, cOpsK_live _ h1⟩
    · cases hc
  | x :: t, _, _, _, _, _, _, _, _, hc => by
    simp only [cTree] at hc
    split at hc
    · cases hc
    · rename_i h1
      obtain ⟨q1, q2⟩ := cOpsK_d _ h1
      have q3 := cOpsK_live _ h1
      split at hc
      · cases hc
      · rename_i h2
        obtain ⟨p1, p2, p3⟩ := cTree_d t h2
        split at hc
        · cases hc
          exact ⟨fun k hk => p1 k (q1 k hk), fun k hk => p2 k (q2 k hk), fun hl => p3 (q3 hl)⟩
        · split at hc
          · cases hc
          · rename_i h3
            have s3 := cOpsK_live _ h3
            split at hc
            · cases hc
              refine ⟨fun k hk => p1 k (q1 k hk), fun k hk => List.mem_append_right _ (p2 k (q2 k hk)), fun hl k hk => ?_⟩
              rcases List.mem_append.1 hk with hk | hk
              · exact s3 hl k hk
              · exact p3 (q3 hl) k hk
            · cases hc
theorem cTree.ok {call : Calls} (hC : CallOk P call) {C : List Tmp} {all : Array Oper} {h0 : CH} {r0 : List RB} {Hs : Heap} (R0 : Rl P H0 r0 h0 Hs) (hm : h0.m = h0.n) {ksA dF : List Nat} (hks : ∀ k, k ∈ ksA → live h0 k = true ∧ k ∉ dF) {a : Nat} {post Y : List Nat} {K : Env → Heap → Prop} :
    ∀ (pre : List Nat) {r : List RB} {h h' : CH} {H : Heap} {e e' : CE} {ρ : Env} {ks k2 kA : List Nat} {j : Nat}, cTree call P C all h0 a post Y pre e h ks = some (e', h', k2, kA, j) → (∀ k, k ∈ kA → k ∈ ksA) → (∀ k, k ∈ h'.d → k ∈ dF) → Rl P H0 r h H → Ex r0 h0 Hs r h H → ER r e ρ →
      FinE P H0 r0 h0 Hs e' h' K → OpsT all (KeptS P C (blksOf r0 ksA) Hs) a post Y K pre ρ H
  | [], r, h, h', H, e, e', ρ, ks, k2, kA, j, hc, hsub, hdF, R, E, hE, hk => by
    simp only [cTree] at hc
    unfold OpsT
    split at hc
    · rename_i h1
      cases hc
      exact cOpsK.ok hC R0 hm hks _ h1 hsub hdF R E hE hk
    · cases hc
  | x :: t, r, h, h', H, e, e', ρ, ks, k2, kA, j, hc, hsub, hdF, R, E, hE, hk => by
    simp only [cTree] at hc
    unfold OpsT
    split at hc
    · cases hc
    · rename_i e1 h1 k1 hc1
      split at hc
      · cases hc
      · rename_i e2 h2 k2' kA' j' hc2
        have hd2 := cTree_d t hc2
        have step : ∀ (kA2 : List Nat), (∀ k, k ∈ kA' → k ∈ ksA) → e2 = e' → h2 = h' → OpsL all (KeptS P C (blksOf r0 ksA) Hs) (opsAt all [x]) ρ H fun ρ' H' => OpsT all (KeptS P C (blksOf r0 ksA) Hs) a post Y K t ρ' H' := by
          intro _ hs2 ee eh
          subst ee eh
          exact cOpsK.ok hC R0 hm hks _ hc1 (fun k hk => hs2 k (hd2.2.1 k hk)) (fun k hk => hdF k (hd2.1 k hk)) R E hE fun r1 H1 ρ1 E1 R1 hE1 =>
            cTree.ok hC R0 hm hks t hc2 hs2 hdF R1 E1 hE1 hk
        split at hc
        · rename_i hY
          cases hc
          rw [hY]
          exact step [] hsub rfl rfl
        · rename_i hY
          rw [hY]
          split at hc
          · cases hc
          · rename_i e3 h3 k3 hc3
            split at hc
            · rename_i heq
              cases hc
              have hd3 := alike.d heq
              have hl : r0.length ≤ h.n := by rw [← R.len]; exact E.pre.len
              refine ⟨cOpsK.ok hC R0 hm hks _ hc3 (fun k hk => hsub k (List.mem_append_left _ hk)) (fun k hk => hdF k (hd3 ▸ hk)) R E hE fun r1 H1 ρ1 E1 R1 hE1 => ?_, step [] (fun k hk => hsub k (List.mem_append_right _ hk)) rfl rfl⟩
              obtain ⟨r2, E2, R2, hE2⟩ := rebase hl heq E1 R1 hE1
              exact hk r2 H1 ρ1 E2 R2 hE2
            · cases hc

/-! ### Regions -/
def nonein : List Nat → List Nat → Bool
  | [], _ => true
  | k :: ks, d => match memN k d with
    | true => false
    | false => nonein ks d
theorem memN_iff {k : Nat} : ∀ {l : List Nat}, memN k l = false → k ∉ l
  | [], _ => by simp
  | j :: l, h => by
    simp only [memN] at h
    split at h
    · cases h
    · rename_i e
      intro hm
      rcases List.mem_cons.1 hm with rfl | hm
      · exact beq_false e rfl
      · exact memN_iff h hm
theorem nonein.ok : ∀ {ks d : List Nat}, nonein ks d = true → ∀ k, k ∈ ks → k ∉ d
  | [], _, _, k, hk => by cases hk
  | j :: ks, d, h, k, hk => by
    simp only [nonein] at h
    split at h
    · cases h
    · rename_i e
      rcases List.mem_cons.1 hk with rfl | hk
      · exact memN_iff e
      · exact nonein.ok h k hk
def cDraw (call : Calls) (P : Program) (plan : Plan) (id : Nat) (ops : Array Oper) (e : CE) (h : CH) : Option (CE × CH) := match treeOf id plan.trees with
  | some t => (match planC id plan.regs with
    | [] => (match cTree call P [] ops h.mark t.a t.post t.Y (t.pre0 ++ t.pre1) e h.mark [] with
      | some (e1, h1, _, kA, _) => (match nonein kA h1.d with
        | true => cOps call P ops (opsAt ops t.zs) e1 (h1.back h)
        | false => none)
      | none => none)
    | c :: C => (match cTree call P (c :: C) ops h.mark t.a t.post t.Y (t.pre0 ++ t.pre1) e h.mark [] with
      | some (e1, h1, _, kA, _) => (match nonein kA h1.d with
        | true => cOps call P ops (opsAt ops t.zs) e1 (h1.back h)
        | false => none)
      | none => none))
  | none => (match planOf id plan.regs with
    | none => cOps call P ops ops.toList e h
    | some (l, []) => cOps call P ops (opsAt ops l) e h
    | some (l, c :: C) => (match Nat.beq c lateMk with
      | true => none
      | false => (match cOpsK call P (c :: C) ops h.mark (opsAt ops (l.take (headN ops l))) e h.mark [] with
        | some (e1, h1, ks) => (match nonein ks h1.d with
          | true => cOps call P ops (opsAt ops (l.drop (headN ops l))) e1 (h1.back h)
          | false => none)
        | none => none)))
theorem cDraw.ok {call : Calls} (hC : CallOk P call) {plan : Plan} {id : Nat} {ops : Array Oper} {e e' : CE} {h h' : CH} {r : List RB} {H : Heap} {ρ : Env} {K : Env → Heap → Prop} (hc : cDraw call P plan id ops e h = some (e', h')) (R : Rl P H0 r h H) (hE : ER r e ρ) (hk : FinE P H0 r h H e' h' K) :
    DrawW P plan id ops ρ H K := by
  unfold cDraw at hc
  unfold DrawW
  split at hc
  · rename_i t ht
    rw [ht]
    simp only
    split at hc
    · rename_i hp
      rw [hp]
      simp only
      split at hc
      · rename_i e1 h1 k2 kA j hcs
        split at hc
        · rename_i hno
          have hlive := (cTree_d _ hcs).2.2 (fun k hk => by cases hk)
          refine OpsT.monoS (rankedKept P [] (blksOf r kA) H).toNice (fun o ρ H K h => kept_nil o ρ H K h) (cTree.ok hC (R.re _ _ : Rl P H0 r h.mark H) rfl (ksA := kA) (dF := h1.d) (fun k hk => ⟨hlive k hk, nonein.ok hno k hk⟩) _ hcs (fun _ h => h) (fun _ h => h) (R.re _ _) (Ex.refl _ _ _) hE ?_)
          intro r1 H1 ρ1 E1 R1 hE1
          have E1' := Ex.back R E1
          exact cOps.ok hC _ hc (R1.re _ _) hE1 fun r2 H2 ρ2 E2 R2 hE2 => hk r2 H2 ρ2 (E1'.trans E2) R2 hE2
        · cases hc
      · cases hc
    · rename_i c C hp
      rw [hp]
      simp only
      split at hc
      · rename_i e1 h1 k2 kA j hcs
        split at hc
        · rename_i hno
          have hlive := (cTree_d _ hcs).2.2 (fun k hk => by cases hk)
          refine ⟨blksOf r kA, fun b hb => ?_, ?_⟩
          · obtain ⟨k, x, hk', hx, rfl⟩ := mem_blks.1 hb
            exact R.thr hx (hlive k hk')
          · refine cTree.ok hC (R.re _ _ : Rl P H0 r h.mark H) rfl (ksA := kA) (dF := h1.d) (fun k hk => ⟨hlive k hk, nonein.ok hno k hk⟩) _ hcs (fun _ h => h) (fun _ h => h) (R.re _ _) (Ex.refl _ _ _) hE ?_
            intro r1 H1 ρ1 E1 R1 hE1
            have E1' := Ex.back R E1
            exact cOps.ok hC _ hc (R1.re _ _) hE1 fun r2 H2 ρ2 E2 R2 hE2 => hk r2 H2 ρ2 (E1'.trans E2) R2 hE2
        · cases hc
      · cases hc
  · rename_i ht
    rw [ht]
    simp only
    split at hc
    · rename_i hp; rw [hp]; exact cOps.ok hC _ hc R hE hk
    · rename_i hp; rw [hp]; exact cOps.ok hC _ hc R hE hk
    · rename_i l c C hp
      rw [hp]
      simp only
      split at hc
      · cases hc
      · rename_i hl
        rw [hl]
        simp only
        split at hc
        · rename_i e1 h1 ks hcs
          split at hc
          · rename_i hno
            have hlive := cOpsK_live _ hcs (fun k hk => by cases hk)
            refine ⟨blksOf r ks, fun b hb => ?_, ?_⟩
            · obtain ⟨k, x, hk', hx, rfl⟩ := mem_blks.1 hb
              exact R.thr hx (hlive k hk')
            · refine cOpsK.ok hC (R.re _ _ : Rl P H0 r h.mark H) rfl (ksA := ks) (dF := h1.d) (fun k hk => ⟨hlive k hk, nonein.ok hno k hk⟩) _ hcs (fun _ h => h) (fun _ h => h) (R.re _ _) (Ex.refl _ _ _) hE ?_
              intro r1 H1 ρ1 E1 R1 hE1
              have E1' := Ex.back R E1
              exact cOps.ok hC _ hc (R1.re _ _) hE1 fun r2 H2 ρ2 E2 R2 hE2 => hk r2 H2 ρ2 (E1'.trans E2) R2 hE2
          · cases hc
        · cases hc
end
end Go.Ev
