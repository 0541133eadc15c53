/-
  Rows of operations; regions.
-/
import Derived.Test.YtcdjiihnkinpcaaGreatEv7
noncomputable section
set_option linter.all false
namespace Go.Ev
variable [Sym]
open Go.Sh

/-! ### What was written stays noted -/
section
theorem add_d {h : CH} {o : CObj} : ∀ k, k ∈ h.d → k ∈ (h.add o).d := fun _ h => h
theorem wr_d {h : CH} {o : CObj} {j : Nat} : ∀ k, k ∈ h.d → k ∈ (h.wr j o).d := fun _ h => addN.old h
theorem wra_d {h : CH} {o o' : CObj} {j : Nat} : ∀ k, k ∈ h.d → k ∈ ((h.wr j o).add o').d := fun _ h => addN.old h
theorem wrs_d {h h' : CH} {k o : Nat} {xs : List CV} (hw : wrs h k o xs = some h') : ∀ k, k ∈ h.d → k ∈ h'.d := by
  unfold wrs at hw
  split at hw
  · split at hw
    · cases hw; exact wr_d
    · cases hw
  · cases hw
theorem keepH_d {h h' : CH} {c : Option CV} {y : CV} (hc : keepH h c = some (y, h')) : ∀ k, k ∈ h.d → k ∈ h'.d := by
  unfold keepH at hc
  split at hc
  · cases hc; exact fun _ h => h
  · cases hc
theorem okTy_d {P : Program} {t : TypeId} {c : Option (CV × CH)} {y : CV} {h h' : CH} (hc : okTy P t c = some (y, h')) (h0 : ∀ y h', c = some (y, h') → ∀ k, k ∈ h.d → k ∈ h'.d) : ∀ k, k ∈ h.d → k ∈ h'.d := by
  unfold okTy at hc
  split at hc
  · split at hc
    · cases hc; exact h0 _ _ rfl
    · cases hc
  · cases hc
theorem cApp_d {P : Program} {ats : List TypeId} {xs : List CV} {h h' : CH} {y : CV} (hc : cApp P ats xs h = some (y, h')) : ∀ k, k ∈ h.d → k ∈ h'.d := by
  unfold cApp at hc
  repeat' split at hc
  all_goals first | (cases hc; done) | skip
  all_goals first
    | (cases hc; exact fun _ h => h)
    | (cases hc; exact add_d)
    | (cases hc; exact wra_d)
    | (cases hc; exact wrs_d (by assumption))
theorem cCopy_d {P : Program} {ats : List TypeId} {xs : List CV} {h h' : CH} {y : CV} (hc : cCopy P ats xs h = some (y, h')) : ∀ k, k ∈ h.d → k ∈ h'.d := by
  unfold cCopy at hc
  repeat' split at hc
  all_goals first | (cases hc; done) | skip
  all_goals (cases hc; exact wrs_d (by assumption))
theorem cMake_d {P : Program} {t : TypeId} {x y z : CV} {h h' : CH} (hc : cMake P t x y h = some (z, h')) : ∀ k, k ∈ h.d → k ∈ h'.d := by
  unfold cMake at hc
  repeat' split at hc
  all_goals first | (cases hc; done) | skip
  all_goals (cases hc; exact add_d)
theorem cStore_d {P : Program} {t : TypeId} {x y : CV} {h h' : CH} (hc : cStore P t x y h = some h') : ∀ k, k ∈ h.d → k ∈ h'.d := by
  unfold cStore at hc
  repeat' split at hc
  all_goals first | (cases hc; done) | skip
  all_goals exact wrs_d hc
theorem cClear_d {P : Program} {ats : List TypeId} {xs : List CV} {h h' : CH} (hc : cClear P ats xs h = some h') : ∀ k, k ∈ h.d → k ∈ h'.d := by
  unfold cClear at hc
  repeat' split at hc
  all_goals first | (cases hc; done) | skip
  all_goals first | (cases hc; exact fun _ h => h) | exact wrs_d hc
theorem cUpdate_d {P : Program} {t : TypeId} {x i y : CV} {h h' : CH} (hc : cUpdate P t x i y h = some h') : ∀ k, k ∈ h.d → k ∈ h'.d := by
  unfold cUpdate at hc
  repeat' split at hc
  all_goals first | (cases hc; done) | skip
  all_goals (cases hc; exact wr_d)
theorem cMapEntry_d {P : Program} {t : TypeId} {x i y : CV} {h h' : CH} (hc : cMapEntry P t x i h = some (y, h')) : ∀ k, k ∈ h.d → k ∈ h'.d := by
  unfold cMapEntry at hc
  repeat' split at hc
  all_goals first | (cases hc; done) | skip
  all_goals (cases hc; exact wr_d)
theorem cEntryStore_d {x s y : CV} {h h' : CH} (hc : cEntryStore x s y h = some h') : ∀ k, k ∈ h.d → k ∈ h'.d := by
  unfold cEntryStore at hc
  repeat' split at hc
  all_goals first | (cases hc; done) | skip
  all_goals (cases hc; exact wr_d)
theorem cDelete_d {P : Program} {ats : List TypeId} {xs : List CV} {h h' : CH} (hc : cDelete P ats xs h = some h') : ∀ k, k ∈ h.d → k ∈ h'.d := by
  unfold cDelete at hc
  repeat' split at hc
  all_goals first | (cases hc; done) | skip
  all_goals (cases hc; exact wr_d)
theorem callG_d {call : Calls} {f : FuncId} {xs : List CV} {h h' : CH} {y : CV} (hc : callG call f xs h = some (y, h')) : ∀ k, k ∈ h.d → k ∈ h'.d := by
  unfold callG at hc
  repeat' split at hc
  all_goals first | (cases hc; done) | skip
  all_goals first | (cases hc; exact fun _ h => h) | (cases hc; exact fun _ h => addAll.old _ h)
theorem cCall_d {call : Calls} {P : Program} {o : Oper} {c : Call} {e : CE} {h h' : CH} {y : CV} (hc : cCall call P o c e h = some (y, h')) : ∀ k, k ∈ h.d → k ∈ h'.d := by
  unfold cCall at hc
  repeat' split at hc
  all_goals first | (cases hc; done) | skip
  all_goals first
    | exact okTy_d hc (fun _ _ h => callG_d h)
    | exact okTy_d hc (fun _ _ h => cApp_d h)
    | exact okTy_d hc (fun _ _ h => cCopy_d h)
    | exact okTy_d hc (fun _ _ h => keepH_d h)
    | exact keepH_d hc
    | (cases hc; exact cClear_d (by assumption))
    | (cases hc; exact cDelete_d (by assumption))
theorem cOp_d {call : Calls} {P : Program} {o : Oper} {e : CE} {h h' : CH} {y : CV} (hc : cOp call P o e h = some (y, h')) : ∀ k, k ∈ h.d → k ∈ h'.d := by
  unfold cOp at hc
  split at hc
  case h_20 => exact cCall_d hc
  all_goals (repeat' split at hc)
  all_goals first | (cases hc; done) | skip
  all_goals first
    | exact keepH_d hc
    | (cases hc; exact add_d)
    | (cases hc; exact fun _ h => h)
    | exact okTy_d hc (fun _ _ h => cMake_d h)
    | exact okTy_d hc (fun _ _ h => keepH_d h)
    | exact cMapEntry_d hc
    | (unfold storeH at hc; split at hc <;> first | (cases hc; exact cStore_d (by assumption)) | (cases hc; exact cUpdate_d (by assumption)) | (cases hc; exact cEntryStore_d (by assumption)) | (cases hc; done))
end

/-! ### Rows -/
/-- Whether an operation is to be done: its guard. -/
def cGuard (all : Array Oper) (o : Oper) (e : CE) : Option Bool := match o.guard with
  | none => some true
  | some (j, want) => (match gdst all j with
    | some d => (match getE e d with
      | .bool b => some (match b, want with | true, true => true | false, false => true | _, _ => false)
      | .tup [] => some false
      | _ => none)
    | none => some false)
def cOps (call : Calls) (P : Program) (all : Array Oper) : List Oper → CE → CH → Option (CE × CH)
  | [], e, h => some (e, h)
  | o :: os, e, h => match cGuard all o e with
    | some true => (match cOp call P o e h with
      | some (y, h') => cOps call P all os (putE e o.dst y) h'
      | none => none)
    | some false => cOps call P all os (putE e o.dst und) h
    | none => none
theorem cOps_d {call : Calls} {P : Program} {all : Array Oper} : ∀ (os : List Oper) {e e' : CE} {h h' : CH}, cOps call P all os e h = some (e', h') → ∀ k, k ∈ h.d → k ∈ h'.d
  | [], _, _, _, _, hc => by cases hc; exact fun _ h => h
  | o :: os, _, _, _, _, hc => by
    simp only [cOps] at hc
    split at hc
    · split at hc
      · rename_i hy; exact fun k hk => cOps_d os hc k (cOp_d hy k hk)
      · cases hc
    · exact cOps_d os hc
    · cases hc

/-- The guard of the model's reading. -/
theorem OpG_of {all : Array Oper} {S : Oper → Env → Heap → (Value → Heap → Prop) → Prop} {o : Oper} {r : List RB} {e : CE} {ρ : Env} {H : Heap} {K : Env → Heap → Prop} (hE : ER r e ρ) {g : Bool} (hg : cGuard all o e = some g)
    (hy : g = true → S o ρ H fun v H' => K (put ρ o.dst v) H') (hn : g = false → K (put ρ o.dst undef) H) : OpG all S o ρ H K := by
  unfold cGuard at hg
  unfold OpG
  split at hg
  · rename_i h0; rw [h0]; cases hg; exact hy rfl
  · rename_i j want h0
    rw [h0]
    simp only
    split at hg
    · rename_i d hd
      rw [hd]
      simp only
      have ht := hE d
      split at hg
      · rename_i b hb
        rw [hb] at ht
        simp only [VR] at ht
        rw [ht]
        simp only
        cases hg
        cases b with
        | true =>
          simp only [IfB]
          rw [put_same ht]
          cases want with
          | true => exact hy rfl
          | false => exact hn rfl
        | false =>
          simp only [IfB]
          rw [put_same ht]
          cases want with
          | false => exact hy rfl
          | true => exact hn rfl
      · rename_i hv
        rw [hv] at ht
        obtain ⟨vs, ht, _⟩ := ht
        rw [ht]
        cases hg
        exact hn rfl
      · cases hg
    · rename_i hd
      rw [hd]
      cases hg
      exact hn rfl

def FinE (P : Program) (H0 : Heap) (r : List RB) (h : CH) (H : Heap) (e' : CE) (h' : CH) (K : Env → Heap → Prop) : Prop :=
  ∀ (r' : List RB) (H' : Heap) (ρ' : Env), Ex r h H r' h' H' → Rl P H0 r' h' H' → ER r' e' ρ' → K ρ' H'

section
variable {P : Program} {H0 : Heap}
theorem cOps.ok {call : Calls} (hC : CallOk P call) {all : Array Oper} {e' : CE} {h' : CH} {K : Env → Heap → Prop} : ∀ (os : List Oper) {r : List RB} {h : CH} {H : Heap} {e : CE} {ρ : Env}, cOps call P all os e h = some (e', h') → Rl P H0 r h H → ER r e ρ → FinE P H0 r h H e' h' K → OpsL all (OpW P) os ρ H K
  | [], r, h, H, e, ρ, hc, R, hE, hk => by cases hc; exact hk r H ρ (Ex.refl _ _ _) R hE
  | o :: os, r, h, H, e, ρ, hc, R, hE, hk => by
    simp only [cOps] at hc
    unfold OpsL
    split at hc
    · rename_i hg
      split at hc
      · rename_i y h1 hy
        refine OpG_of hE hg (fun _ => ?_) (fun h => by cases h)
        refine cOp.ok hC R hE hy fun r1 H1 v E1 R1 hv => ?_
        exact cOps.ok hC os hc R1 ((hE.mono E1.pre).put _ hv) fun r2 H2 ρ2 E2 R2 hE2 => hk r2 H2 ρ2 (E1.trans E2) R2 hE2
      · cases hc
    · rename_i hg
      refine OpG_of hE hg (fun h => by cases h) (fun _ => ?_)
      exact cOps.ok hC os hc R (hE.put _ vr_und) hk
    · cases hc

/-! ### Rows with loads that calls leave alone -/
def cOpsK (call : Calls) (P : Program) (C : List Tmp) (all : Array Oper) (h0 : CH) : List Oper → CE → CH → List Nat → Option (CE × CH × List Nat)
  | [], e, h, ks => some (e, h, ks)
  | o :: os, e, h, ks => match cGuard all o e with
    | some true => (match inC C o with
      | true => (match o.op with
        | .load t a => (match cEv e a with
          | some (.ptr k off) => (match live h0 k, cLoad P t (.ptr k off) h with
            | true, some y => cOpsK call P C all h0 os (putE e o.dst y) h (k :: ks)
            | _, _ => none)
          | _ => none)
        | _ => none)
      | false => (match cOp call P o e h with
        | some (y, h') => cOpsK call P C all h0 os (putE e o.dst y) h' ks
        | none => none))
    | some false => cOpsK call P C all h0 os (putE e o.dst und) h ks
    | none => none
theorem cOpsK_d {call : Calls} {P : Program} {C : List Tmp} {all : Array Oper} {h0 : CH} : ∀ (os : List Oper) {e e' : CE} {h h' : CH} {ks ks' : List Nat}, cOpsK call P C all h0 os e h ks = some (e', h', ks') → (∀ k, k ∈ h.d → k ∈ h'.d) ∧ ∀ k, k ∈ ks → k ∈ ks'
  | [], _, _, _, _, _, _, hc => by cases hc; exact ⟨fun _ h => h, fun _ h => h⟩
  | o :: os, _, _, _, _, _, _, hc => by
    simp only [cOpsK] at hc
    split at hc
    · split at hc
      · split at hc
        · split at hc
          · split at hc
            · obtain ⟨h1, h2⟩ := cOpsK_d os hc
              exact ⟨h1, fun k hk => h2 k (List.mem_cons_of_mem _ hk)⟩
            · cases hc
          · cases hc
        · cases hc
      · split at hc
        · rename_i hy
          obtain ⟨h1, h2⟩ := cOpsK_d os hc
          exact ⟨fun k hk => h1 k (cOp_d hy k hk), h2⟩
        · cases hc
    · exact cOpsK_d os hc
    · cases hc
def blksOf (r : List RB) (ks : List Nat) : List Nat := ks.filterMap fun k => (r[k]?).map (·.blk)
theorem mem_blks {r : List RB} {ks : List Nat} {j : Nat} : j ∈ blksOf r ks ↔ ∃ k b, k ∈ ks ∧ r[k]? = some b ∧ b.blk = j := by
  unfold blksOf
  rw [List.mem_filterMap]
  constructor
  · rintro ⟨k, hk, h⟩
    cases hb : r[k]? with
    | none => rw [hb] at h; cases h
    | some b => rw [hb] at h; cases h; exact ⟨k, b, hk, hb, rfl⟩
  · rintro ⟨k, b, hk, hb, rfl⟩
    exact ⟨k, hk, by rw [hb]; rfl⟩
/-- All that was loaded is of blocks that were there at first. -/
theorem cOpsK_live {call : Calls} {P : Program} {C : List Tmp} {all : Array Oper} {h0 : CH} : ∀ (os : List Oper) {e e' : CE} {h h' : CH} {ks ks' : List Nat}, cOpsK call P C all h0 os e h ks = some (e', h', ks') → (∀ k, k ∈ ks → live h0 k = true) → ∀ k, k ∈ ks' → live h0 k = true
  | [], _, _, _, _, _, _, hc, hl => by cases hc; exact hl
  | o :: os, _, _, _, _, _, _, hc, hl => by
    simp only [cOpsK] at hc
    split at hc
    · split at hc
      · split at hc
        · split at hc
          · split at hc
            · rename_i h1 h2
              refine cOpsK_live os hc fun k hk => ?_
              rcases List.mem_cons.1 hk with rfl | hk
              · exact h1
              · exact hl k hk
            · cases hc
          · cases hc
        · cases hc
      · split at hc
        · exact cOpsK_live os hc hl
        · cases hc
    · exact cOpsK_live os hc hl
    · cases hc

/-- Rows whose loads of some temporaries are said of the heap at first. -/
theorem cOpsK.ok {call : Calls} (hC : CallOk P call) {C : List Tmp} {all : Array Oper} {h0 : CH} {r0 : List RB} {Hs : Heap} (R0 : Rl P H0 r0 h0 Hs) (hm : h0.m = h0.n) {ksA dF : List Nat} (hks : ∀ k, k ∈ ksA → live h0 k = true ∧ k ∉ dF) :
    ∀ (os : List Oper) {r : List RB} {h h' : CH} {H : Heap} {e e' : CE} {ρ : Env} {ks ks' : List Nat} {K : Env → Heap → Prop}, cOpsK call P C all h0 os e h ks = some (e', h', ks') → (∀ k, k ∈ ks' → k ∈ ksA) → (∀ k, k ∈ h'.d → k ∈ dF) → Rl P H0 r h H → Ex r0 h0 Hs r h H → ER r e ρ →
      FinE P H0 r0 h0 Hs e' h' K → OpsL all (KeptS P C (blksOf r0 ksA) Hs) os ρ H K := by
  have key : ∀ {h : CH} {r : List RB} {H : Heap}, (∀ k, k ∈ h.d → k ∈ dF) → Ex r0 h0 Hs r h H → KeptIn (blksOf r0 ksA) Hs H := by
    intro h r H hd E b hb
    obtain ⟨k, x, hk, hx, rfl⟩ := mem_blks.1 hb
    obtain ⟨h1, h2⟩ := hks k hk
    have hlt : k < h0.m := by rw [hm, ← R0.len]; exact (List.getElem?_eq_some_iff.1 hx).1
    exact ⟨R0.thr hx h1, (E.same k x hx h1 hlt fun h => h2 (hd k h)).1⟩
  intro os
  induction os with
  | nil => intro r h h' H e e' ρ ks ks' K hc _ _ R E hE hk; cases hc; exact hk r H ρ E R hE
  | cons o os ih =>
    intro r h h' H e e' ρ ks ks' K hc hsub hdF R E hE hk
    have hd0 := cOpsK_d _ hc
    simp only [cOpsK] at hc
    unfold OpsL
    split at hc
    · rename_i hg
      refine OpG_of hE hg (fun _ => ?_) (fun h => by cases h)
      split at hc
      · rename_i hin
        split at hc
        · rename_i t a ho
          split at hc
          · rename_i k off hx
            split at hc
            · rename_i y hl hy
              have hv := hE.cev hx
              unfold KeptS
              rw [hin]
              simp only [ho]
              have hv' := hv
              simp only [VR] at hv'
              obtain ⟨b, hb, hv'⟩ := hv'
              rw [hv']
              have hkm : k ∈ ksA := hsub k ((cOpsK_d _ hc).2 k List.mem_cons_self)
              have hlt : k < h0.n := by
                unfold live at hl
                cases e1 : h0.t.get k with
                | none => rw [e1] at hl; cases hl
                | some o => exact R0.lt e1
              obtain ⟨b0, hb0⟩ := R0.at hlt
              have : b0 = b := by
                have := E.pre k b0 hb0
                rw [hb] at this; exact (Option.some.inj this).symm
              subst this
              have hbm : b0.blk ∈ blksOf r0 ksA := mem_blks.2 ⟨k, b0, hkm, hb0, rfl⟩
              refine ⟨hbm, ?_⟩
              have hsame := (key (fun j hj => hdF j (hd0.1 j hj)) E b0.blk hbm).2
              have hld : LoadW P t (ev ρ a) H (fun v _ => OpsL all (KeptS P C (blksOf r0 ksA) Hs) os (put ρ o.dst v) H K) :=
                cLoad.ok R hy hv fun w hw => ih hc hsub hdF R E (hE.put _ hw) hk
              rw [hv'] at hld
              obtain ⟨w, hw, hl2⟩ := LoadW.read hld
              refine hl2 Hs _ (fun q hq p' hp' v hv => ?_) hw
              cases hq
              simp only [Heap.cell, hp'] at hv ⊢
              rw [← hsame]; exact hv
            · cases hc
          · cases hc
        · cases hc
      · rename_i hin
        split at hc
        · rename_i y h1 hy
          unfold KeptS
          rw [hin]
          have main : OpW P o ρ H fun v H' => KeptIn (blksOf r0 ksA) Hs H' ∧ OpsL all (KeptS P C (blksOf r0 ksA) Hs) os (put ρ o.dst v) H' K := by
            refine cOp.ok hC R hE hy fun r1 H1 v E1 R1 hv => ?_
            have E' := E.trans E1
            exact ⟨key (fun j hj => hdF j ((cOpsK_d _ hc).1 j hj)) E', ih hc hsub hdF R1 E' ((hE.mono E1.pre).put _ hv) hk⟩
          simp only
          split
          · exact main
          · exact OpW.mono (fun v H' h => h.2) main
        · cases hc
    · rename_i hg
      refine OpG_of hE hg (fun h => by cases h) (fun _ => ?_)
      exact ih hc hsub hdF R E (hE.put _ vr_und) hk
    · cases hc

/-! ### Two states that are one -/
mutual
def ceq : CV → CV → Bool
  | .bool a, .bool b => (match a, b with | true, true => true | false, false => true | _, _ => false)
  | .int k a, .int k' b => (match decide (k = k'), decide (a = b) with | true, true => true | _, _ => false)
  | .str a, .str b => strEq a b
  | .ptr k o, .ptr k' o' => Nat.beq k k' && Nat.beq o o'
  | .nilp, .nilp => true
  | .sl k o n c x, .sl k' o' n' c' x' => Nat.beq k k' && Nat.beq o o' && Nat.beq n n' && Nat.beq c c' && (match x, x' with | true, true => true | false, false => true | _, _ => false)
  | .nils, .nils => true
  | .sl0, .sl0 => true
  | .mp k, .mp k' => Nat.beq k k'
  | .nilm, .nilm => true
  | .fn f cs, .fn f' cs' => Nat.beq f f' && ceqs cs cs'
  | .bnd f cs, .bnd f' cs' => Nat.beq f f' && ceqs cs cs'
  | .nilf, .nilf => true
  | .ifc t c, .ifc t' c' => Nat.beq t t' && ceq c c'
  | .nili, .nili => true
  | .agg cs, .agg cs' => ceqs cs cs'
  | .tup cs, .tup cs' => ceqs cs cs'
  | .yld k, .yld k' => Nat.beq k k'
  | .sym k, .sym k' => Nat.beq k k'
  | _, _ => false
def ceqs : List CV → List CV → Bool
  | [], [] => true
  | c :: cs, d :: ds => ceq c d && ceqs cs ds
  | _, _ => false
end
theorem bm {a b : Bool} (h : (match a, b with | true, true => true | false, false => true | _, _ => false) = true) : a = b := by cases a <;> cases b <;> simp_all
mutual
theorem ceq.ok : ∀ (a b : CV), ceq a b = true → a = b
  | .bool a, b, h => by cases b <;> simp only [ceq] at h <;> first | (cases h; done) | (rw [bm h])
  | .int k a, b, h => by
    cases b <;> simp only [ceq] at h <;> first | (cases h; done) | skip
    split at h
    · rename_i h1 h2; rw [of_decide_eq_true h1, of_decide_eq_true h2]
    · cases h
  | .str a, b, h => by
    cases b <;> simp only [ceq] at h <;> first | (cases h; done) | skip
    rw [strEq_eq] at h
    rw [eq_of_beq h]
  | .ptr k o, b, h => by
    cases b <;> simp only [ceq] at h <;> first | (cases h; done) | skip
    simp only [Bool.and_eq_true] at h
    rw [beq_true h.1, beq_true h.2]
  | .nilp, b, h => by cases b <;> simp only [ceq] at h <;> first | (cases h; done) | rfl
  | .sl k o n c x, b, h => by
    cases b <;> simp only [ceq] at h <;> first | (cases h; done) | skip
    simp only [Bool.and_eq_true] at h
    obtain ⟨⟨⟨⟨h1, h2⟩, h3⟩, h4⟩, h5⟩ := h
    rw [beq_true h1, beq_true h2, beq_true h3, beq_true h4, bm h5]
  | .nils, b, h => by cases b <;> simp only [ceq] at h <;> first | (cases h; done) | rfl
  | .sl0, b, h => by cases b <;> simp only [ceq] at h <;> first | (cases h; done) | rfl
  | .mp k, b, h => by cases b <;> simp only [ceq] at h <;> first | (cases h; done) | (rw [beq_true h])
  | .nilm, b, h => by cases b <;> simp only [ceq] at h <;> first | (cases h; done) | rfl
  | .fn f cs, b, h => by
    cases b <;> simp only [ceq] at h <;> first | (cases h; done) | skip
    simp only [Bool.and_eq_true] at h
    rw [beq_true h.1, ceqs.ok _ _ h.2]
  | .bnd f cs, b, h => by
    cases b <;> simp only [ceq] at h <;> first | (cases h; done) | skip
    simp only [Bool.and_eq_true] at h
    rw [beq_true h.1, ceqs.ok _ _ h.2]
  | .nilf, b, h => by cases b <;> simp only [ceq] at h <;> first | (cases h; done) | rfl
  | .ifc t c, b, h => by
    cases b <;> simp only [ceq] at h <;> first | (cases h; done) | skip
    simp only [Bool.and_eq_true] at h
    rw [beq_true h.1, ceq.ok _ _ h.2]
  | .nili, b, h => by cases b <;> simp only [ceq] at h <;> first | (cases h; done) | rfl
  | .agg cs, b, h => by
    cases b <;> simp only [ceq] at h <;> first | (cases h; done) | skip
    rw [ceqs.ok _ _ h]
  | .tup cs, b, h => by
    cases b <;> simp only [ceq] at h <;> first | (cases h; done) | skip
    rw [ceqs.ok _ _ h]
  | .opq v, b, h => by cases b <;> simp only [ceq] at h <;> cases h
  | .yld k, b, h => by cases b <;> simp only [ceq] at h <;> first | (cases h; done) | (rw [beq_true h])
  | .sym k, b, h => by cases b <;> simp only [ceq] at h <;> first | (cases h; done) | (rw [beq_true h])
theorem ceqs.ok : ∀ (a b : List CV), ceqs a b = true → a = b
  | [], b, h => by cases b <;> simp only [ceqs] at h <;> first | (cases h; done) | rfl
  | c :: cs, b, h => by
    cases b <;> simp only [ceqs] at h <;> first | (cases h; done) | skip
    simp only [Bool.and_eq_true] at h
    rw [ceq.ok _ _ h.1, ceqs.ok _ _ h.2]
end
def teq {α : Type} (q : α → α → Bool) : Tr α → Tr α → Bool
  | .e, .e => true
  | .n v l r, .n v' l' r' => (match v, v' with
    | none, none => true
    | some a, some b => q a b
    | _, _ => false) && teq q l l' && teq q r r'
  | _, _ => false
theorem teq.ok {α : Type} {q : α → α → Bool} (hq : ∀ a b, q a b = true → a = b) : ∀ (s t : Tr α), teq q s t = true → s = t
  | .e, t, h => by cases t <;> simp only [teq] at h <;> first | (cases h; done) | rfl
  | .n v l r, t, h => by
    cases t <;> simp only [teq] at h <;> first | (cases h; done) | skip
    rename_i v' l' r'
    simp only [Bool.and_eq_true] at h
    obtain ⟨⟨h1, h2⟩, h3⟩ := h
    rw [teq.ok hq _ _ h2, teq.ok hq _ _ h3]
    cases v <;> cases v' <;> simp only at h1 <;> first | (cases h1; done) | rfl | rw [hq _ _ h1]
def eeq : List (CV × CV × Nat) → List (CV × CV × Nat) → Bool
  | [], [] => true
  | (a, b, n) :: l, (a', b', n') :: l' => ceq a a' && ceq b b' && Nat.beq n n' && eeq l l'
  | _, _ => false
theorem eeq.ok : ∀ (a b : List (CV × CV × Nat)), eeq a b = true → a = b
  | [], b, h => by cases b <;> simp only [eeq] at h <;> first | (cases h; done) | rfl
  | (a, c, n) :: l, b, h => by
    cases b <;> simp only [eeq] at h <;> first | (cases h; done) | skip
    simp only [Bool.and_eq_true] at h
    obtain ⟨⟨⟨h1, h2⟩, h3⟩, h4⟩ := h
    rw [ceq.ok _ _ h1, ceq.ok _ _ h2, beq_true h3, eeq.ok _ _ h4]
def oeq : CObj → CObj → Bool
  | .cells n d t T, .cells n' d' t' T' => Nat.beq n n' && ceq d d' && teq ceq t t' && Nat.beq T T'
  | .map es c, .map es' c' => eeq es es' && Nat.beq c c'
  | .gone, .gone => true
  | _, _ => false
theorem oeq.ok : ∀ (a b : CObj), oeq a b = true → a = b
  | .cells n d t T, b, h => by
    cases b <;> simp only [oeq] at h <;> first | (cases h; done) | skip
    simp only [Bool.and_eq_true] at h
    obtain ⟨⟨⟨h1, h2⟩, h3⟩, h4⟩ := h
    rw [beq_true h1, ceq.ok _ _ h2, teq.ok ceq.ok _ _ h3, beq_true h4]
  | .map es c, b, h => by
    cases b <;> simp only [oeq] at h <;> first | (cases h; done) | skip
    simp only [Bool.and_eq_true] at h
    rw [eeq.ok _ _ h.1, beq_true h.2]
  | .gone, b, h => by cases b <;> simp only [oeq] at h <;> first | (cases h; done) | rfl
  | .loop .., b, h => by cases b <;> simp only [oeq] at h <;> cases h
def neq : List Nat → List Nat → Bool
  | [], [] => true
  | a :: l, b :: l' => Nat.beq a b && neq l l'
  | _, _ => false
theorem neq.ok : ∀ (a b : List Nat), neq a b = true → a = b
  | [], b, h => by cases b <;> simp only [neq] at h <;> first | (cases h; done) | rfl
  | a :: l, b, h => by
    cases b <;> simp only [neq] at h <;> first | (cases h; done) | skip
    simp only [Bool.and_eq_true] at h
    rw [beq_true h.1, neq.ok _ _ h.2]
def heq' (h h' : CH) : Bool := Nat.beq h.n h'.n && Nat.beq h.m h'.m && neq h.d h'.d && teq oeq h.t h'.t
theorem heq'.ok {h h' : CH} (e : heq' h h' = true) : h = h' := by
  unfold heq' at e
  simp only [Bool.and_eq_true] at e
  obtain ⟨⟨⟨h1, h2⟩, h3⟩, h4⟩ := e
  obtain ⟨n, t, m, d⟩ := h
  obtain ⟨n', t', m', d'⟩ := h'
  simp only at h1 h2 h3 h4
  rw [beq_true h1, beq_true h2, neq.ok _ _ h3, teq.ok oeq.ok _ _ h4]

theorem OpG.monoS {all : Array Oper} {S S' : Oper → Env → Heap → (Value → Heap → Prop) → Prop} (hS : ∀ o ρ H K, S o ρ H K → S' o ρ H K) {o : Oper} {ρ : Env} {H : Heap} {K : Env → Heap → Prop} (h : OpG all S o ρ H K) : OpG all S' o ρ H K := by
  unfold OpG at *
  split at h
  · exact hS _ _ _ _ h
  · split at h
    · split at h
      · refine IfB.mono h (fun h => ?_) (fun h => ?_)
        · split at h
          · exact hS _ _ _ _ h
          · exact h
        · split at h
          · exact hS _ _ _ _ h
          · exact h
      · exact h
    · exact h
theorem OpsL.monoS {all : Array Oper} {S S' : Oper → Env → Heap → (Value → Heap → Prop) → Prop} (N : Nice S) (hS : ∀ o ρ H K, S o ρ H K → S' o ρ H K) : ∀ {l : List Oper} {ρ : Env} {H : Heap} {K : Env → Heap → Prop}, OpsL all S l ρ H K → OpsL all S' l ρ H K
  | [], _, _, _, h => h
  | _ :: _, _, _, _, h => OpG.monoS hS (OpG.mono N (fun _ _ h => OpsL.monoS N hS h) h)
theorem OpsT.monoS {all : Array Oper} {S S' : Oper → Env → Heap → (Value → Heap → Prop) → Prop} (N : Nice S) (hS : ∀ o ρ H K, S o ρ H K → S' o ρ H K) {a : Nat} {post Y : List Nat} {K : Env → Heap → Prop} : ∀ {pre : List Nat} {ρ : Env} {H : Heap}, OpsT all S a post Y K pre ρ H → OpsT all S' a post Y K pre ρ H
  | [], _, _, h => OpsL.monoS N hS h
  | x :: t, _, _, h => by
    unfold OpsT at h ⊢
    split at h
    · exact ⟨OpsL.monoS N hS h.1, OpsL.monoS N hS (OpsL.mono N (fun _ _ h => OpsT.monoS N hS h) _ _ _ h.2)⟩
    · exact OpsL.monoS N hS (OpsL.mono N (fun _ _ h => OpsT.monoS N hS h) _ _ _ h)
theorem kept_nil {bs : List Nat} {H0 : Heap} (o : Oper) (ρ : Env) (H : Heap) (K : Value → Heap → Prop) (h : KeptS P [] bs H0 o ρ H K) : OpW P o ρ H K := by
  unfold KeptS at h
  have : inC [] o = false := by unfold inC; split <;> rfl
  rw [this] at h
  simp only at h
  split at h
  · exact OpW.mono (fun _ _ h => h.2) h
  · exact h

/-- A new block that stands in no order with calls: both orders, which must come to the same. -/
def cTree (call : Calls) (P : Program) (C : List Tmp) (all : Array Oper) (h0 : CH) (a : Nat) (post Y : List Nat) : List Nat → CE → CH → List Nat → Option (CE × CH × List Nat × List Nat)
  | [], e, h, ks => (match cOpsK call P C all h0 (opsAt all (a :: post)) e h ks with
    | some (e1, h1, k1) => some (e1, h1, k1, k1)
    | none => none)
  | x :: t, e, h, ks => match cOpsK call P C all h0 (opsAt all [x]) e h ks with
    | none => none
    | some (e1, h1, k1) => match cTree call P C all h0 a post Y t e1 h1 k1 with
      | none => none
      | some (e2, h2, k2, kA) => match memB x Y with
        | false => some (e2, h2, k2, kA)
        | true => match cOpsK call P C all h0 (opsAt all (a :: x :: (t ++ post))) e h ks with
          | none => none
          | some (e3, h3, k3) => match teq ceq e3 e2 && heq' h3 h2 with
            | true => some (e2, h2, k2, k3 ++ kA)
            | false => none
theorem cTree_d {call : Calls} {C : List Tmp} {all : Array Oper} {h0 : CH} {a : Nat} {post Y : List Nat} : ∀ (pre : List Nat) {e e' : CE} {h h' : CH} {ks k2 kA : List Nat}, cTree call P C all h0 a post Y pre e h ks = some (e', h', k2, kA) → (∀ k, k ∈ h.d → k ∈ h'.d) ∧ (∀ k, k ∈ ks → k ∈ kA) ∧ ((∀ k, k ∈ ks → live h0 k = true) → ∀ k, k ∈ kA → live h0 k = true)
  | [], _, _, _, _, _, _, _, hc => by
    simp only [cTree] at hc
    split at hc
    · rename_i h1
      cases hc
      obtain ⟨q1, q2⟩ := cOpsK_d _ h1
      exact ⟨q1, q2, cOpsK_live _ h1⟩
    · cases hc
  | x :: t, _, _, _, _, _, _, _, hc => by
    simp only [cTree] at hc
    split at hc
    · cases hc
    · rename_i h1
      obtain ⟨q1, q2⟩ := cOpsK_d _ h1
      have q3 := cOpsK_live _ h1
      split at hc
      · cases hc
      · rename_i h2
        obtain ⟨p1, p2, p3⟩ := cTree_d t h2
        split at hc
        · cases hc
          exact ⟨fun k hk => p1 k (q1 k hk), fun k hk => p2 k (q2 k hk), fun hl => p3 (q3 hl)⟩
        · split at hc
          · cases hc
          · rename_i h3
            have s3 := cOpsK_live _ h3
            split at hc
            · cases hc
              refine ⟨fun k hk => p1 k (q1 k hk), fun k hk => List.mem_append_right _ (p2 k (q2 k hk)), fun hl k hk => ?_⟩
              rcases List.mem_append.1 hk with hk | hk
              · exact s3 hl k hk
              · exact p3 (q3 hl) k hk
            · cases hc
theorem cTree.ok {call : Calls} (hC : CallOk P call) {C : List Tmp} {all : Array Oper} {h0 : CH} {r0 : List RB} {Hs : Heap} (R0 : Rl P H0 r0 h0 Hs) (hm : h0.m = h0.n) {ksA dF : List Nat} (hks : ∀ k, k ∈ ksA → live h0 k = true ∧ k ∉ dF) {a : Nat} {post Y : List Nat} {K : Env → Heap → Prop} :
    ∀ (pre : List Nat) {r : List RB} {h h' : CH} {H : Heap} {e e' : CE} {ρ : Env} {ks k2 kA : List Nat}, cTree call P C all h0 a post Y pre e h ks = some (e', h', k2, kA) → (∀ k, k ∈ kA → k ∈ ksA) → (∀ k, k ∈ h'.d → k ∈ dF) → Rl P H0 r h H → Ex r0 h0 Hs r h H → ER r e ρ →
      FinE P H0 r0 h0 Hs e' h' K → OpsT all (KeptS P C (blksOf r0 ksA) Hs) a post Y K pre ρ H
  | [], r, h, h', H, e, e', ρ, ks, k2, kA, hc, hsub, hdF, R, E, hE, hk => by
    simp only [cTree] at hc
    unfold OpsT
    split at hc
    · rename_i h1
      cases hc
      exact cOpsK.ok hC R0 hm hks _ h1 hsub hdF R E hE hk
    · cases hc
  | x :: t, r, h, h', H, e, e', ρ, ks, k2, kA, hc, hsub, hdF, R, E, hE, hk => by
    simp only [cTree] at hc
    unfold OpsT
    split at hc
    · cases hc
    · rename_i e1 h1 k1 hc1
      split at hc
      · cases hc
      · rename_i e2 h2 k2' kA' hc2
        have hd2 := cTree_d t hc2
        have step : ∀ (kA2 : List Nat), (∀ k, k ∈ kA' → k ∈ ksA) → e2 = e' → h2 = h' → OpsL all (KeptS P C (blksOf r0 ksA) Hs) (opsAt all [x]) ρ H fun ρ' H' => OpsT all (KeptS P C (blksOf r0 ksA) Hs) a post Y K t ρ' H' := by
          intro _ hs2 ee eh
          subst ee eh
          exact cOpsK.ok hC R0 hm hks _ hc1 (fun k hk => hs2 k (hd2.2.1 k hk)) (fun k hk => hdF k (hd2.1 k hk)) R E hE fun r1 H1 ρ1 E1 R1 hE1 =>
            cTree.ok hC R0 hm hks t hc2 hs2 hdF R1 E1 hE1 hk
        split at hc
        · rename_i hY
          cases hc
          rw [hY]
          exact step [] hsub rfl rfl
        · rename_i hY
          rw [hY]
          split at hc
          · cases hc
          · rename_i e3 h3 k3 hc3
            split at hc
            · rename_i heq
              cases hc
              simp only [Bool.and_eq_true] at heq
              have ee := teq.ok ceq.ok _ _ heq.1
              have eh := heq'.ok heq.2
              subst ee eh
              refine ⟨cOpsK.ok hC R0 hm hks _ hc3 (fun k hk => hsub k (List.mem_append_left _ hk)) hdF R E hE hk, step [] (fun k hk => hsub k (List.mem_append_right _ hk)) rfl rfl⟩
            · cases hc

/-! ### Regions -/
def nonein : List Nat → List Nat → Bool
  | [], _ => true
  | k :: ks, d => match memN k d with
    | true => false
    | false => nonein ks d
theorem memN_iff {k : Nat} : ∀ {l : List Nat}, memN k l = false → k ∉ l
  | [], _ => by simp
  | j :: l, h => by
    simp only [memN] at h
    split at h
    · cases h
    · rename_i e
      intro hm
      rcases List.mem_cons.1 hm with rfl | hm
      · exact beq_false e rfl
      · exact memN_iff h hm
theorem nonein.ok : ∀ {ks d : List Nat}, nonein ks d = true → ∀ k, k ∈ ks → k ∉ d
  | [], _, _, k, hk => by cases hk
  | j :: ks, d, h, k, hk => by
    simp only [nonein] at h
    split at h
    · cases h
    · rename_i e
      rcases List.mem_cons.1 hk with rfl | hk
      · exact memN_iff e
      · exact nonein.ok h k hk
def cDraw (call : Calls) (P : Program) (plan : Plan) (id : Nat) (ops : Array Oper) (e : CE) (h : CH) : Option (CE × CH) := match treeOf id plan.trees with
  | some t => (match planC id plan.regs with
    | [] => (match cTree call P [] ops h.mark t.a t.post t.Y (t.pre0 ++ t.pre1) e h.mark [] with
      | some (e1, h1, _, kA) => (match nonein kA h1.d with
        | true => cOps call P ops (opsAt ops t.zs) e1 (h1.back h)
        | false => none)
      | none => none)
    | c :: C => (match cTree call P (c :: C) ops h.mark t.a t.post t.Y (t.pre0 ++ t.pre1) e h.mark [] with
      | some (e1, h1, _, kA) => (match nonein kA h1.d with
        | true => cOps call P ops (opsAt ops t.zs) e1 (h1.back h)
        | false => none)
      | none => none))
  | none => (match planOf id plan.regs with
    | none => cOps call P ops ops.toList e h
    | some (l, []) => cOps call P ops (opsAt ops l) e h
    | some (l, c :: C) => (match Nat.beq c lateMk with
      | true => none
      | false => (match cOpsK call P (c :: C) ops h.mark (opsAt ops (l.take (headN ops l))) e h.mark [] with
        | some (e1, h1, ks) => (match nonein ks h1.d with
          | true => cOps call P ops (opsAt ops (l.drop (headN ops l))) e1 (h1.back h)
          | false => none)
        | none => none)))
theorem cDraw.ok {call : Calls} (hC : CallOk P call) {plan : Plan} {id : Nat} {ops : Array Oper} {e e' : CE} {h h' : CH} {r : List RB} {H : Heap} {ρ : Env} {K : Env → Heap → Prop} (hc : cDraw call P plan id ops e h = some (e', h')) (R : Rl P H0 r h H) (hE : ER r e ρ) (hk : FinE P H0 r h H e' h' K) :
    DrawW P plan id ops ρ H K := by
  unfold cDraw at hc
  unfold DrawW
  split at hc
  · rename_i t ht
    rw [ht]
    simp only
    split at hc
    · rename_i hp
      rw [hp]
      simp only
      split at hc
      · rename_i e1 h1 k2 kA hcs
        split at hc
        · rename_i hno
          have hlive := (cTree_d _ hcs).2.2 (fun k hk => by cases hk)
          refine OpsT.monoS (rankedKept P [] (blksOf r kA) H).toNice (fun o ρ H K h => kept_nil o ρ H K h) (cTree.ok hC (R.re _ _ : Rl P H0 r h.mark H) rfl (ksA := kA) (dF := h1.d) (fun k hk => ⟨hlive k hk, nonein.ok hno k hk⟩) _ hcs (fun _ h => h) (fun _ h => h) (R.re _ _) (Ex.refl _ _ _) hE ?_)
          intro r1 H1 ρ1 E1 R1 hE1
          have E1' := Ex.back R E1
          exact cOps.ok hC _ hc (R1.re _ _) hE1 fun r2 H2 ρ2 E2 R2 hE2 => hk r2 H2 ρ2 (E1'.trans E2) R2 hE2
        · cases hc
      · cases hc
    · rename_i c C hp
      rw [hp]
      simp only
      split at hc
      · rename_i e1 h1 k2 kA hcs
        split at hc
        · rename_i hno
          have hlive := (cTree_d _ hcs).2.2 (fun k hk => by cases hk)
          refine ⟨blksOf r kA, fun b hb => ?_, ?_⟩
          · obtain ⟨k, x, hk', hx, rfl⟩ := mem_blks.1 hb
            exact R.thr hx (hlive k hk')
          · refine cTree.ok hC (R.re _ _ : Rl P H0 r h.mark H) rfl (ksA := kA) (dF := h1.d) (fun k hk => ⟨hlive k hk, nonein.ok hno k hk⟩) _ hcs (fun _ h => h) (fun _ h => h) (R.re _ _) (Ex.refl _ _ _) hE ?_
            intro r1 H1 ρ1 E1 R1 hE1
            have E1' := Ex.back R E1
            exact cOps.ok hC _ hc (R1.re _ _) hE1 fun r2 H2 ρ2 E2 R2 hE2 => hk r2 H2 ρ2 (E1'.trans E2) R2 hE2
        · cases hc
      · cases hc
  · rename_i ht
    rw [ht]
    simp only
    split at hc
    · rename_i hp; rw [hp]; exact cOps.ok hC _ hc R hE hk
    · rename_i hp; rw [hp]; exact cOps.ok hC _ hc R hE hk
    · rename_i l c C hp
      rw [hp]
      simp only
      split at hc
      · cases hc
      · rename_i hl
        rw [hl]
        simp only
        split at hc
        · rename_i e1 h1 ks hcs
          split at hc
          · rename_i hno
            have hlive := cOpsK_live _ hcs (fun k hk => by cases hk)
            refine ⟨blksOf r ks, fun b hb => ?_, ?_⟩
            · obtain ⟨k, x, hk', hx, rfl⟩ := mem_blks.1 hb
              exact R.thr hx (hlive k hk')
            · refine cOpsK.ok hC (R.re _ _ : Rl P H0 r h.mark H) rfl (ksA := ks) (dF := h1.d) (fun k hk => ⟨hlive k hk, nonein.ok hno k hk⟩) _ hcs (fun _ h => h) (fun _ h => h) (R.re _ _) (Ex.refl _ _ _) hE ?_
              intro r1 H1 ρ1 E1 R1 hE1
              have E1' := Ex.back R E1
              exact cOps.ok hC _ hc (R1.re _ _) hE1 fun r2 H2 ρ2 E2 R2 hE2 => hk r2 H2 ρ2 (E1'.trans E2) R2 hE2
          · cases hc
        · cases hc
end
end Go.Ev
