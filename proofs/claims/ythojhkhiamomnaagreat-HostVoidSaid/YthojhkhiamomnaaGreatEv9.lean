/-
  Code; functions.
-/
import Derived.Test.YthojhkhiamomnaaGreatEv8
noncomputable section
set_option linter.all false
namespace Go.Ev
variable [Sym]
open Go.Sh

abbrev Fin3 := Option (Exit × CE × CH)
def iterC (B : CE → CH → Fin3) : Nat → CE → CH → Fin3
  | 0, _, _ => none
  | n + 1, e, h => match B e h with
    | some (.normal, e1, h1) => iterC B n e1 h1
    | x => x
def jumpC (F : Nat → CE → CH → Fin3) (L : Nat → Bool) : Nat → Fin3 → Fin3
  | 0, some (.goto l, e, h) => (match L l with
    | true => none
    | false => some (.goto l, e, h))
  | n + 1, some (.goto l, e, h) => (match L l with
    | true => jumpC F L n (F l e h)
    | false => some (.goto l, e, h))
  | _, x => x
/-- What stands behind a loop over a function. -/
def endL (k : Nat) (e : CE) (h : CH) : Fin3 := match h.t.get k with
  | some (.loop _ _ _ _ _ st pend) => (match Nat.beq st 1, pend with
    | false, none => some (.normal, e, h.wr k .gone)
    | false, some .ret => some (.ret, e, h.wr k .gone)
    | false, some (.exit i) => some (.exit i, e, h.wr k .gone)
    | false, some (.goto t) => some (.goto t, e, h.wr k .gone)
    | _, _ => none)
  | _ => none
mutual
def cCode (call : Calls) (P : Program) (plan : Plan) : Code → CE → CH → Fin3
  | .skip, e, h => some (.normal, e, h)
  | .label _, e, h => some (.normal, e, h)
  | .region id ops draw, e, h => (match (match draw with | true => cDraw call P plan id ops e h | false => cOps call P ops ops.toList e h) with
    | some (e1, h1) => some (.normal, e1, h1)
    | none => none)
  | .seq a b, e, h => (match cCode call P plan a e h with
    | some (.normal, e1, h1) => cCode call P plan b e1 h1
    | x => x)
  | .cond c x y, e, h => (match cEv e c with
    | some (.bool true) => cCode call P plan x e h
    | some (.bool false) => cCode call P plan y e h
    | _ => none)
  | .block id c, e, h => (match cCode call P plan c e h with
    | some (.exit i, e1, h1) => (match Nat.beq i id with
      | true => some (.normal, e1, h1)
      | false => some (.exit i, e1, h1))
    | x => x)
  | .loop c, e, h => (match unrOf (firstRegion c) plan.unr with
    | some n => iterC (fun e h => cCode call P plan c e h) n e h
    | none => none)
  | .scope c, e, h => (match loopLbl plan c with
    | none => jumpC (fun l e h => cFr call P plan c l e h) (hasLbl c) (scopeN plan c) (cCode call P plan c e h)
    | some _ => none)
  | .exit id, e, h => some (.exit id, e, h)
  | .goto l, e, h => some (.goto l, e, h)
  | .ret, e, h => some (.ret, e, h)
  | .rangeFunc g ps asg body, e, h => (match cEv e g with
    | some (.fn f caps) => (match Nat.blt f yB && !(isExt P f), callG call f (.yld h.n :: caps) (h.add (.loop e ps asg body plan 0 none)) with
      | true, some (_, h2) => endL h.n e h2
      | _, _ => none)
    | _ => none)
  | _, _, _ => none
def cFr (call : Calls) (P : Program) (plan : Plan) : Code → Nat → CE → CH → Fin3
  | .seq a b, l, e, h => (match hasLbl a l with
    | true => (match cFr call P plan a l e h with
      | some (.normal, e1, h1) => cCode call P plan b e1 h1
      | x => x)
    | false => cFr call P plan b l e h)
  | .label l', l, e, h => (match Nat.beq l' l with
    | true => some (.normal, e, h)
    | false => none)
  | _, _, _, _ => none
end

def FinC (P : Program) (H0 : Heap) (r : List RB) (h : CH) (H : Heap) (ex : Exit) (e' : CE) (h' : CH) (Q : Post) : Prop :=
  ∀ (r' : List RB) (H' : Heap) (ρ' : Env), Ex r h H r' h' H' → Rl P H0 r' h' H' → ER r' e' ρ' → Q ex ρ' H'
/-- A piece of code whose run the machine reckons. -/
def Good (P : Program) (H0 : Heap) (B : CE → CH → Fin3) (W : Env → Heap → Post → Prop) : Prop :=
  ∀ (e : CE) (h : CH) (ex : Exit) (e' : CE) (h' : CH), B e h = some (ex, e', h') → ∀ (r : List RB) (H : Heap) (ρ : Env) (Q : Post), Rl P H0 r h H → ER r e ρ → FinC P H0 r h H ex e' h' Q → W ρ H Q

section
variable {P : Program} {H0 : Heap}
theorem FinC.trans {r r1 : List RB} {h h1 h' : CH} {H H1 : Heap} {ex : Exit} {e' : CE} {Q : Post} (E : Ex r h H r1 h1 H1) (k : FinC P H0 r h H ex e' h' Q) : FinC P H0 r1 h1 H1 ex e' h' Q :=
  fun r2 H2 ρ2 E2 R2 hE2 => k r2 H2 ρ2 (E.trans E2) R2 hE2
theorem iterC.ok {B : CE → CH → Fin3} {W : Env → Heap → Post → Prop} (hB : Good P H0 B W) : ∀ n : Nat, Good P H0 (iterC B n) (unrollC W n)
  | 0, _, _, _, _, _, hc, _, _, _, _, _, _, _ => by cases hc
  | n + 1, e, h, ex, e', h', hc, r, H, ρ, Q, R, hE, hk => by
    simp only [iterC] at hc
    unfold unrollC
    split at hc
    · rename_i e1 h1 h0
      refine hB _ _ _ _ _ h0 r H ρ _ R hE fun r1 H1 ρ1 E1 R1 hE1 => ?_
      rw [nextK_yes rfl]
      exact iterC.ok hB n _ _ _ _ _ hc r1 H1 ρ1 Q R1 hE1 (hk.trans E1)
    · rename_i hx
      refine hB _ _ _ _ _ hc r H ρ _ R hE fun r1 H1 ρ1 E1 R1 hE1 => ?_
      have hne : isNorm ex = false := by
        cases ex <;> first | rfl | exact absurd hc (hx _ _)
      rw [nextK_no hne]
      exact hk r1 H1 ρ1 E1 R1 hE1
theorem jumpC.ok {F : Nat → CE → CH → Fin3} {FW : Nat → Env → Heap → Post → Prop} {L : Nat → Bool} (hF : ∀ l, L l = true → Good P H0 (F l) (FW l)) : ∀ (n : Nat) {ex : Exit} {e : CE} {h : CH} {ex' : Exit} {e' : CE} {h' : CH}, jumpC F L n (some (ex, e, h)) = some (ex', e', h') →
    ∀ {r : List RB} {H : Heap} {ρ : Env} {Q : Post}, Rl P H0 r h H → ER r e ρ → FinC P H0 r h H ex' e' h' Q → gotoK FW L n Q ex ρ H := by
  intro n
  induction n with
  | zero =>
    intro ex e h ex' e' h' hc r H ρ Q R hE hk
    rcases goto_cases ex with ⟨l, rfl⟩ | hx
    · simp only [jumpC] at hc
      split at hc
      · cases hc
      · rename_i hl
        cases hc
        rw [gotoK_no hl]
        exact hk r H ρ (Ex.refl _ _ _) R hE
    · rw [gotoK_else hx]
      have : some (ex, e, h) = some (ex', e', h') := by
        cases ex <;> first | exact hc | exact absurd rfl (hx _)
      cases this
      exact hk r H ρ (Ex.refl _ _ _) R hE
  | succ n ih =>
    intro ex e h ex' e' h' hc r H ρ Q R hE hk
    rcases goto_cases ex with ⟨l, rfl⟩ | hx
    · simp only [jumpC] at hc
      split at hc
      · rename_i hl
        rw [gotoK_yes hl]
        cases hf : F l e h with
        | none => rw [hf] at hc; cases n <;> cases hc
        | some x =>
          obtain ⟨ex1, e1, h1⟩ := x
          rw [hf] at hc
          exact hF l hl _ _ _ _ _ hf r H ρ _ R hE fun r1 H1 ρ1 E1 R1 hE1 => ih hc R1 hE1 (hk.trans E1)
      · rename_i hl
        cases hc
        rw [gotoK_no hl]
        exact hk r H ρ (Ex.refl _ _ _) R hE
    · rw [gotoK_else hx]
      have : some (ex, e, h) = some (ex', e', h') := by
        cases ex <;> first | exact hc | exact absurd rfl (hx _)
      cases this
      exact hk r H ρ (Ex.refl _ _ _) R hE

/-- The rest of the heap turned. -/
theorem Rl.other {r : List RB} {h : CH} {H H' : Heap} (R : Rl P H0 r h H) (hs : ∀ (k : Nat) (b : RB), r[k]? = some b → live h k = true → H' b.blk = H b.blk) (hf : ∀ b, H0 b ≠ none → H' b = H0 b) : Rl P H0 r h H' ∧ Ex r h H r h H' :=
  ⟨⟨R.len, R.top, fun k b o hb ho => by
    have hB := R.blk k b o hb ho
    exact BR.same' (fun hn => hs k b hb (live_of ho hn)) hB, R.inj, R.new, hf, R.good⟩,
   ⟨Pre.refl _, rfl, fun _ h => h, fun k b hb hg _ _ => ⟨hs k b hb hg, hg⟩⟩⟩
theorem Rl.dead {r : List RB} {h : CH} {H : Heap} (R : Rl P H0 r h H) {d : Nat} {o : Obj} (hd : H d = none) : Rl P H0 r h (H.upd d o) ∧ Ex r h H r h (H.upd d o) := by
  refine R.other (fun k b hb hl => upd_ne fun e => ?_) (fun b hb => ?_)
  · obtain ⟨o', ho⟩ := R.thr hb hl
    rw [e, hd] at ho; cases ho
  · have : b ≠ d := fun e => by subst e; exact hb (R.fresh hd)
    rw [upd_ne this]; exact R.fr b hb
theorem endL.ok {k : Nat} {e e' : CE} {h h0 h' : CH} {ex : Exit} {r r0 : List RB} {H Hs : Heap} {ρ : Env} {Q : Post} {b : RB} (hc : endL k e h = some (ex, e', h')) (R : Rl P H0 r h H) (hb : r[k]? = some b) (E : Ex r0 h0 Hs r h H) (hE : ER r e ρ) (hk : FinC P H0 r0 h0 Hs ex e' h' Q) :
    EndC b.blk ρ H Q := by
  unfold endL at hc
  split at hc
  · rename_i e0 ps asg body pl st pend hg
    obtain ⟨rec, ρ', q1, q2, q3, _, _, _⟩ := R.blk k b _ hb hg
    have fin : ∀ o, Rl P H0 r (h.wr k .gone) (H.upd b.blk o) ∧ Ex r h H r (h.wr k .gone) (H.upd b.blk o) := fun o => R.write (o := .gone) hb (live_of hg (by simp)) (fun j hj => upd_ne hj) trivial
    have hst : Nat.beq st 1 = false → rec.state ≠ .busy := by
      intro hs
      rw [q2]
      have := beq_false hs
      match st, this with
      | 0, _ => simp [stOf]
      | 2, _ => simp [stOf]
      | n + 3, _ => simp [stOf]
    split at hc <;> first | (cases hc; done) | skip
    all_goals
      rename_i hs
      cases hc
      refine ⟨rec, q1, hst hs, ?_⟩
      rw [q3]
      exact hk _ _ _ (E.trans (fin _).2) (fin _).1 hE
  · cases hc

mutual
theorem cCode.ok {call : Calls} (hC : CallOk P call) {plan : Plan} : ∀ c : Code, Good P H0 (cCode call P plan c) (CodeW P plan c)
  | .skip, e, h, ex, e', h', hc, r, H, ρ, Q, R, hE, hk => by
    simp only [cCode] at hc; cases hc
    simp only [CodeW]; exact hk r H ρ (Ex.refl _ _ _) R hE
  | .label _, e, h, ex, e', h', hc, r, H, ρ, Q, R, hE, hk => by
    simp only [cCode] at hc; cases hc
    simp only [CodeW]; exact hk r H ρ (Ex.refl _ _ _) R hE
  | .region id ops draw, e, h, ex, e', h', hc, r, H, ρ, Q, R, hE, hk => by
    simp only [cCode] at hc
    simp only [CodeW]
    cases draw with
    | true =>
      simp only at hc ⊢
      split at hc
      · rename_i hd
        cases hc
        exact cDraw.ok hC hd R hE hk
      · cases hc
    | false =>
      simp only at hc ⊢
      split at hc
      · rename_i hd
        cases hc
        exact cOps.ok hC _ hd R hE hk
      · cases hc
  | .seq a b, e, h, ex, e', h', hc, r, H, ρ, Q, R, hE, hk => by
    simp only [cCode] at hc
    simp only [CodeW]
    split at hc
    · rename_i e1 h1 h0
      refine cCode.ok hC a _ _ _ _ _ h0 r H ρ _ R hE fun r1 H1 ρ1 E1 R1 hE1 => ?_
      exact cCode.ok hC b _ _ _ _ _ hc r1 H1 ρ1 Q R1 hE1 (hk.trans E1)
    · rename_i hx
      refine cCode.ok hC a _ _ _ _ _ hc r H ρ _ R hE fun r1 H1 ρ1 E1 R1 hE1 => ?_
      have := hk r1 H1 ρ1 E1 R1 hE1
      cases ex <;> first | exact this | exact absurd hc (hx _ _)
  | .cond c x y, e, h, ex, e', h', hc, r, H, ρ, Q, R, hE, hk => by
    simp only [cCode] at hc
    simp only [CodeW]
    split at hc
    · rename_i hx
      have := hE.cev hx
      simp only [VR] at this
      rw [this]
      exact cCode.ok hC x _ _ _ _ _ hc r H ρ Q R hE hk
    · rename_i hx
      have := hE.cev hx
      simp only [VR] at this
      rw [this]
      exact cCode.ok hC y _ _ _ _ _ hc r H ρ Q R hE hk
    · cases hc
  | .block id c, e, h, ex, e', h', hc, r, H, ρ, Q, R, hE, hk => by
    simp only [cCode] at hc
    simp only [CodeW]
    split at hc
    · rename_i i e1 h1 h0
      refine cCode.ok hC c _ _ _ _ _ h0 r H ρ _ R hE fun r1 H1 ρ1 E1 R1 hE1 => ?_
      unfold blockK
      simp only
      split at hc
      · rename_i hi; cases hc; rw [hi]; exact hk r1 H1 ρ1 E1 R1 hE1
      · rename_i hi; cases hc; rw [hi]; exact hk r1 H1 ρ1 E1 R1 hE1
    · rename_i hx
      refine cCode.ok hC c _ _ _ _ _ hc r H ρ _ R hE fun r1 H1 ρ1 E1 R1 hE1 => ?_
      have := hk r1 H1 ρ1 E1 R1 hE1
      cases ex <;> first | exact this | exact absurd hc (hx _ _ _)
  | .loop c, e, h, ex, e', h', hc, r, H, ρ, Q, R, hE, hk => by
    simp only [cCode] at hc
    simp only [CodeW]
    split at hc
    · rename_i n hn
      simp only [hn]
      exact iterC.ok (fun e h ex e' h' hc r H ρ Q R hE hk => cCode.ok hC c e h ex e' h' hc r H ρ Q R hE hk) n _ _ _ _ _ hc r H ρ Q R hE hk
    · cases hc
  | .scope c, e, h, ex, e', h', hc, r, H, ρ, Q, R, hE, hk => by
    simp only [cCode] at hc
    simp only [CodeW]
    split at hc
    · rename_i hl
      simp only [hl]
      cases h0 : cCode call P plan c e h with
      | none => rw [h0] at hc; generalize scopeN plan c = n at hc; cases n <;> cases hc
      | some x =>
        obtain ⟨ex1, e1, h1⟩ := x
        rw [h0] at hc
        refine cCode.ok hC c _ _ _ _ _ h0 r H ρ _ R hE fun r1 H1 ρ1 E1 R1 hE1 => ?_
        exact jumpC.ok (fun l _ e h ex e' h' hc r H ρ Q R hE hk => cFr.ok hC c l e h ex e' h' hc r H ρ Q R hE hk) _ hc R1 hE1 (hk.trans E1)
    · cases hc
  | .exit id, e, h, ex, e', h', hc, r, H, ρ, Q, R, hE, hk => by
    simp only [cCode] at hc; cases hc
    simp only [CodeW]; exact hk r H ρ (Ex.refl _ _ _) R hE
  | .goto l, e, h, ex, e', h', hc, r, H, ρ, Q, R, hE, hk => by
    simp only [cCode] at hc; cases hc
    simp only [CodeW]; exact hk r H ρ (Ex.refl _ _ _) R hE
  | .ret, e, h, ex, e', h', hc, r, H, ρ, Q, R, hE, hk => by
    simp only [cCode] at hc; cases hc
    simp only [CodeW]; exact hk r H ρ (Ex.refl _ _ _) R hE
  | .rangeFunc g ps asg body, e, h, ex, e', h', hc, r, H, ρ, Q, R, hE, hk => by
    simp only [cCode] at hc
    simp only [CodeW]
    split at hc
    · rename_i f caps hg
      have hv := hE.cev hg
      simp only [VR] at hv
      obtain ⟨vs, hv, hvs⟩ := hv
      rw [hv]
      simp only
      split at hc
      · rename_i y h2 hy hcall
        refine ⟨trivial, fun nt d l rec hd hl hne p1 p2 p3 p4 p5 _ hrnd => ?_⟩
        obtain ⟨R1, E1⟩ := R.dead (o := .deferred (some [])) hd
        have hl' : (H.upd d (.deferred (some []))) l = none := by rw [upd_ne hne]; exact hl
        obtain ⟨R2, E2⟩ := R1.push (o := .loop e ps asg body plan 0 none) (obj := .loop rec) (x := ⟨l, 0, 0⟩) hl' rfl ⟨rec, ρ, upd_eq, p1, p2, p3, hE.mono (Pre.push r _), fun ws H1 K hw hR => by rw [p4, p5]; exact hrnd ws H1 K hw hR⟩
        have hat : (r ++ [(⟨l, 0, 0⟩ : RB)])[h.n]? = some ⟨l, 0, 0⟩ := by rw [← R.len]; exact last_get _
        have hcw := callG.ok hC hcall R2 (VRs.cons (show VR _ (.yld h.n) (.func (.yield l) #[] #[]) from ⟨_, hat, rfl⟩) (VRs.mono (Pre.push r _) _ _ hvs))
        simp only [Bool.and_eq_true, Bool.not_eq_true'] at hy
        unfold CalW at hcw
        rw [hy.1, hy.2] at hcw
        have ea : (#[Value.func (.yield l) #[] #[]] ++ (⟨vs⟩ : Array Value)) = ⟨Value.func (.yield l) #[] #[] :: vs⟩ := by apply Array.ext'; simp
        rw [ea]
        refine hcw.mono fun v H' ⟨r3, E3, R3, _⟩ => ?_
        exact endL.ok hc R3 (E3.pre _ _ hat) ((E1.trans E2).trans E3) (hE.mono ((E1.trans E2).trans E3).pre) hk
      · cases hc
    · cases hc
  | .refuse .., e, h, ex, e', h', hc, r, H, ρ, Q, R, hE, hk => by simp only [cCode] at hc; cases hc
theorem cFr.ok {call : Calls} (hC : CallOk P call) {plan : Plan} : ∀ (c : Code) (l : Nat), Good P H0 (cFr call P plan c l) (CodeFr P plan c l)
  | .seq a b, l, e, h, ex, e', h', hc, r, H, ρ, Q, R, hE, hk => by
    simp only [cFr] at hc
    simp only [CodeFr]
    split at hc
    · rename_i hl
      simp only [hl]
      split at hc
      · rename_i e1 h1 h0
        refine cFr.ok hC a l _ _ _ _ _ h0 r H ρ _ R hE fun r1 H1 ρ1 E1 R1 hE1 => ?_
        exact cCode.ok hC b _ _ _ _ _ hc r1 H1 ρ1 Q R1 hE1 (hk.trans E1)
      · rename_i hx
        refine cFr.ok hC a l _ _ _ _ _ hc r H ρ _ R hE fun r1 H1 ρ1 E1 R1 hE1 => ?_
        have := hk r1 H1 ρ1 E1 R1 hE1
        cases ex <;> first | exact this | exact absurd hc (hx _ _)
    · rename_i hl
      simp only [hl]
      exact cFr.ok hC b l _ _ _ _ _ hc r H ρ Q R hE hk
  | .label l', l, e, h, ex, e', h', hc, r, H, ρ, Q, R, hE, hk => by
    simp only [cFr] at hc
    simp only [CodeFr]
    split at hc
    · rename_i hl; simp only [hl]; cases hc; exact hk r H ρ (Ex.refl _ _ _) R hE
    · cases hc
  | .skip, _, _, _, _, _, _, hc, _, _, _, _, _, _, _ => by simp only [cFr] at hc; cases hc
  | .region .., _, _, _, _, _, _, hc, _, _, _, _, _, _, _ => by simp only [cFr] at hc; cases hc
  | .cond .., _, _, _, _, _, _, hc, _, _, _, _, _, _, _ => by simp only [cFr] at hc; cases hc
  | .block .., _, _, _, _, _, _, hc, _, _, _, _, _, _, _ => by simp only [cFr] at hc; cases hc
  | .loop .., _, _, _, _, _, _, hc, _, _, _, _, _, _, _ => by simp only [cFr] at hc; cases hc
  | .scope .., _, _, _, _, _, _, hc, _, _, _, _, _, _, _ => by simp only [cFr] at hc; cases hc
  | .exit .., _, _, _, _, _, _, hc, _, _, _, _, _, _, _ => by simp only [cFr] at hc; cases hc
  | .goto .., _, _, _, _, _, _, hc, _, _, _, _, _, _, _ => by simp only [cFr] at hc; cases hc
  | .ret, _, _, _, _, _, _, hc, _, _, _, _, _, _, _ => by simp only [cFr] at hc; cases hc
  | .rangeFunc .., _, _, _, _, _, _, hc, _, _, _, _, _, _, _ => by simp only [cFr] at hc; cases hc
  | .refuse .., _, _, _, _, _, _, hc, _, _, _, _, _, _, _ => by simp only [cFr] at hc; cases hc
end

/-! ### Rounds -/
def bindC : List Tmp → List CV → CE → CE
  | t :: ts, x :: xs, e => bindC ts xs (e.set t x)
  | _, _, e => e
theorem bindC.ok {r : List RB} : ∀ {ts : List Tmp} {xs : List CV} {vs : List Value} {e : CE} {ρ : Env}, VRs r xs vs → ER r e ρ → ER r (bindC ts xs e) (bindR ts vs ρ)
  | [], xs, vs, e, ρ, hv, hE => by cases xs <;> cases vs <;> exact hE
  | t :: ts, [], vs, e, ρ, hv, hE => by simp only [VRs] at hv; subst hv; exact hE
  | t :: ts, x :: xs, vs, e, ρ, hv, hE => by
    simp only [VRs] at hv
    obtain ⟨v, us, rfl, h1, h2⟩ := hv
    show ER r (bindC ts xs (e.set t x)) (bindR ts us (put ρ (some t) v))
    exact bindC.ok h2 (hE.put (some t) h1)
def isNone' : Option Code → Bool
  | none => true
  | some _ => false
/-- A round of a loop over a function. -/
def cYl (call : Calls) (P : Program) (k : Nat) (xs : List CV) (h : CH) : Option (CV × CH) := match h.t.get k with
  | some (.loop e ps asg body plan 0 _) => (match Nat.beq xs.length ps.size, cCode call P plan asg (bindC ps.toList xs e) h with
    | true, some (.normal, e1, h1) => (match h1.t.get k with
      | some (.loop e' ps' asg' body' plan' 0 pd) => (match cCode call P plan body e1 (h1.wr k (.loop e' ps' asg' body' plan' 1 pd)) with
        | some (ex, e2, h2) => (match jumpOf ex, h2.t.get k with
          | some j, some (.loop e'' ps'' asg'' body'' plan'' _ _) => some (.bool (isNone' j), h2.wr k (.loop e'' ps'' asg'' body'' plan'' (match isNone' j with | true => 0 | false => 2) j))
          | _, _ => none)
        | none => none)
      | _ => none)
    | _, _ => none)
  | _ => none
theorem cYl.ok {call : Calls} (hC : CallOk P call) {k : Nat} {xs : List CV} {h h' : CH} {y : CV} (hc : cYl call P k xs h = some (y, h')) {r : List RB} {H : Heap} {vs : List Value} (R : Rl P H0 r h H) (hv : VRs r xs vs) :
    ∃ b, r[k]? = some b ∧ YieldW P b.blk vs H (Ret P H0 r h H y h') := by
  unfold cYl at hc
  split at hc
  · rename_i e ps asg body plan pd0 hg
    obtain ⟨b, hb⟩ := R.at (R.lt hg)
    obtain ⟨rec, ρ, q1, q2, q3, q4, q5, q6⟩ := R.blk k b _ hb hg
    split at hc
    · rename_i e1 h1 hsz ha
      split at hc
      · rename_i e' ps' asg' body' plan' pd hg1
        split at hc
        · rename_i ex e2 h2 hbd
          split at hc
          · rename_i j e'' ps'' asg'' body'' plan'' st'' pd'' hj hg2
            cases hc
            refine ⟨b, hb, rec, q1, q2, by rw [hv.len, q4]; exact beq_true hsz, ?_⟩
            rw [q4]
            refine q6 vs H _ (by rw [hv.len]; exact beq_true hsz) ?_
            unfold RoundC
            refine cCode.ok hC asg _ _ _ _ _ ha r H _ _ R (bindC.ok hv q5) fun r1 H1 ρ1 E1 R1 hE1 => ?_
            have hb1 := E1.pre k b hb
            obtain ⟨rec1, ρ1', s1, s2, s3, s4, s5, s6⟩ := R1.blk k b _ hb1 hg1
            refine ⟨rec1, s1, s2, ?_⟩
            obtain ⟨R2, E2⟩ := R1.write (o := .loop e' ps' asg' body' plan' 1 pd) (H' := H1.upd b.blk (.loop { rec1 with state := .busy })) hb1 (live_of hg1 (by simp)) (fun j hj => upd_ne hj) ⟨_, ρ1', upd_eq, rfl, s3, s4, s5, s6⟩
            refine cCode.ok hC body _ _ _ _ _ hbd r1 _ ρ1 _ R2 hE1 fun r3 H3 ρ3 E3 R3 hE3 => ?_
            have hb3 := E3.pre k b hb1
            obtain ⟨rec3, ρ3', t1, t2, t3, t4, t5, t6⟩ := R3.blk k b _ hb3 hg2
            unfold RoundE
            refine ⟨rec3, t1, ?_⟩
            rw [hj]
            have hn : isNone' j = j.isNone := by cases j <;> rfl
            obtain ⟨R4, E4⟩ := R3.write (o := .loop e'' ps'' asg'' body'' plan'' (match isNone' j with | true => 0 | false => 2) j) (H' := H3.upd b.blk (.loop { rec3 with state := if j.isNone then .ready else .done, pending := j })) hb3 (live_of hg2 (by simp)) (fun j hj => upd_ne hj)
              ⟨_, ρ3', upd_eq, by cases j <;> rfl, rfl, t4, t5, t6⟩
            exact ⟨r3, E1.trans (E2.trans (E3.trans E4)), R4, by rw [hn]; rfl⟩
          · cases hc
        · cases hc
      · cases hc
    · cases hc
  · cases hc

/-! ### Functions -/
def cRes (P : Program) (e : CE) (h : CH) : List ResultVar → Option (List CV)
  | [] => some []
  | .tmp t :: rs => (match cRes P e h rs with
    | some xs => some (getE e t :: xs)
    | none => none)
  | .cell a t :: rs => (match cLoad P t (getE e a) h, cRes P e h rs with
    | some x, some xs => some (x :: xs)
    | _, _ => none)
def tupC : List CV → CV
  | [v] => v
  | vs => .tup vs
theorem tupC.ok {r : List RB} {xs : List CV} : ∀ vs : List Value, VRs r xs vs → VR r (tupC xs) (match vs with | [v] => v | vs => .tuple ⟨vs⟩) := by
  intro vs h
  cases xs with
  | nil => simp only [VRs] at h; subst h; exact ⟨[], rfl, VRs.nil⟩
  | cons x xs =>
    have h' := h
    simp only [VRs] at h
    obtain ⟨v, us, rfl, h1, h2⟩ := h
    cases xs with
    | nil => simp only [VRs] at h2; subst h2; exact h1
    | cons y ys =>
      have h3 := h2
      simp only [VRs] at h2
      obtain ⟨w, ws, rfl, _, _⟩ := h2
      exact ⟨_, rfl, h'⟩
theorem cRes.ok {r : List RB} {h : CH} {H : Heap} (R : Rl P H0 r h H) {e : CE} {ρ : Env} (hE : ER r e ρ) {K : Value → Prop} : ∀ (rs : List ResultVar) {xs acc : List CV} {av : List Value}, cRes P e h rs = some xs → VRs r acc av → (∀ vs, VRs r (acc ++ xs) vs → K (match vs with | [v] => v | vs => .tuple ⟨vs⟩)) → ResW P ρ H rs av K
  | [], xs, acc, av, hc, ha, hk => by
    cases hc
    rw [List.append_nil] at hk
    exact hk av ha
  | .tmp t :: rs, xs, acc, av, hc, ha, hk => by
    simp only [cRes] at hc
    split at hc
    · rename_i ys hy
      cases hc
      simp only [ResW]
      exact cRes.ok R hE rs hy (VRs.append ha (VRs.cons (hE t) VRs.nil)) fun vs hv => hk vs (by rw [List.append_assoc] at hv; exact hv)
    · cases hc
  | .cell a t :: rs, xs, acc, av, hc, ha, hk => by
    simp only [cRes] at hc
    split at hc
    · rename_i x ys hx hy
      cases hc
      simp only [ResW]
      exact cLoad.ok R hx (hE a) fun w hw => cRes.ok R hE rs hy (VRs.append ha (VRs.cons hw VRs.nil)) fun vs hv => hk vs (by rw [List.append_assoc] at hv; exact hv)
    · cases hc

def knownB (P : Program) (fn : Func) (plan : Plan) (c : Code) : Bool :=
  !(fn.name == "runtime.NumGoroutine") && P.follows .mixedOrders && codeOk P fn.ntmps plan none c && fn.results.toList.all (fun r => match r with | .tmp t => Nat.blt t fn.ntmps | .cell t _ => Nat.blt t fn.ntmps)
def isEnd : Exit → Bool
  | .normal => true
  | .ret => true
  | _ => false
def cFnB (call : Calls) (P : Program) (plan : Plan) (fn : Func) (c : Code) (xs : List CV) (h : CH) : Option (CV × CH) := match knownB P fn plan c && Nat.ble xs.length fn.ntmps with
  | true => (match cCode call P plan c (Tr.fill .e 0 xs) h with
    | some (ex, e, h') => (match isEnd ex, cRes P e h' fn.results.toList with
      | true, some ys => some (tupC ys, h')
      | _, _ => none)
    | none => none)
  | false => none
/-- Some functions' calls are known otherwise (ov). -/
def cFn (P : Program) (plans : FuncId → Plan) (ov : Calls) : Nat → Calls
  | 0 => fun _ _ _ => none
  | n + 1 => fun f xs h => match ov f xs h with
    | some x => some x
    | none => match Nat.blt f yB with
      | false => cYl (cFn P plans ov n) P (f - yB) xs h
      | true => match P.funcs[f]? with
        | none => none
        | some fn => match fn.body with
          | none => none
          | some c => cFnB (cFn P plans ov n) P (plans f) fn c xs h

theorem Rl.shut {r r' : List RB} {h h' : CH} {H H' H'' : Heap} (E : Ex r h H r' h' H') (R0 : Rl P H0 r h H) (R : Rl P H0 r' h' H') (hs : Shut H H' H'') : Rl P H0 r' h' H'' ∧ Ex r h H r' h' H'' := by
  have same : ∀ (k : Nat) (b : RB), r'[k]? = some b → live h' k = true → H'' b.blk = H' b.blk := by
    intro k b hb hl
    rcases hs b.blk with e | ⟨_, e, _⟩
    · exact e
    · unfold live at hl
      cases ho : h'.t.get k with
      | none => rw [ho] at hl; cases hl
      | some o =>
        have := R.blk k b o hb ho
        cases o with
        | gone => rw [ho] at hl; cases hl
        | cells => obtain ⟨c, h1, _⟩ := this; rw [e] at h1; cases h1
        | map => obtain ⟨c, h1, _⟩ := this; rw [e] at h1; cases h1
        | loop => obtain ⟨c, _, h1, _⟩ := this; rw [e] at h1; cases h1
        | iter => obtain ⟨_, c, _, h1⟩ := this; rw [e] at h1; cases h1
  refine ⟨⟨R.len, R.top, fun k b o hb ho => ?_, R.inj, R.new, fun b hb => ?_, R.good⟩, ⟨E.pre, E.m, E.d, fun k b hb hl hm hd => ?_⟩⟩
  · have hB := R.blk k b o hb ho
    exact BR.same' (fun hn => same k b hb (live_of ho hn)) hB
  · have h1 := R.fr b hb
    rcases hs b with e | ⟨e, _, _⟩
    · rw [e]; exact h1
    · have := R0.fr b hb
      rw [e] at this
      exact absurd this.symm hb
  · obtain ⟨h1, h2⟩ := E.same k b hb hl hm hd
    exact ⟨(same k b (E.pre k b hb) h2).trans h1, h2⟩

theorem er_fill {r : List RB} {xs : List CV} {vs : List Value} (hv : VRs r xs vs) : ER r (Tr.fill .e 0 xs) (env0 vs) := by
  intro t
  have e1 : getE (Tr.fill .e 0 xs) t = xs.getD t und := by
    unfold getE
    rw [Tr.get_fill]
    by_cases e : 0 ≤ t ∧ t < 0 + xs.length
    · rw [if_pos e, Nat.sub_zero, List.getD_eq_getElem?_getD]
      cases h : xs[t]? with
      | none => rfl
      | some x => rfl
    · rw [if_neg e, List.getD_eq_getElem?_getD, List.getElem?_eq_none (by omega)]; rfl
  rw [e1]
  unfold env0
  have hl := hv.len
  by_cases e : t < xs.length
  · obtain ⟨v, h1, h2⟩ := hv.get t _ (List.getElem?_eq_getElem e)
    rw [List.getD_eq_getElem?_getD, List.getD_eq_getElem?_getD, List.getElem?_eq_getElem e, h1]
    exact h2
  · rw [List.getD_eq_getElem?_getD, List.getD_eq_getElem?_getD, List.getElem?_eq_none (by omega), List.getElem?_eq_none (by omega)]
    exact vr_und

theorem cFn.ok (plans : FuncId → Plan) {ov : Calls} (hO : CallOk P ov) : ∀ n : Nat, CallOk P (cFn P plans ov n)
  | 0 => fun _ _ _ _ _ _ hc => by cases hc
  | n + 1 => by
    intro H0 f xs h y h' hc r H vs R hv
    simp only [cFn] at hc
    split at hc
    · rename_i x ho
      cases hc
      exact hO H0 f xs h _ _ ho r H vs R hv
    · split at hc
      · rename_i hy
        unfold CalW
        rw [hy]
        exact cYl.ok (cFn.ok plans hO n) hc R hv
      rename_i hy
      refine CalW.fn hy ?_
      split at hc
      · cases hc
      · rename_i fn hf
        split at hc
        · cases hc
        · rename_i c hb
          unfold cFnB at hc
          split at hc
          · rename_i hk
            simp only [knownB, Bool.and_eq_true, Bool.not_eq_true'] at hk
            obtain ⟨⟨⟨⟨k1, k2⟩, k3⟩, k4⟩, k5⟩ := hk
            split at hc
            · rename_i ex e h1 hcode
              split at hc
              · rename_i ys hend hres
                cases hc
                refine FnW.of_code (plan := plans f) (c := c) ⟨hf, hb, k1, k2, k3, k4⟩ (by rw [hv.len]; exact k5) ?_
                refine cCode.ok (cFn.ok plans hO n) c _ _ _ _ _ hcode r H _ _ R (er_fill hv) fun r1 H1 ρ1 E1 R1 hE1 => ?_
                have fin : ResW P ρ1 H1 fn.results.toList [] fun v => ∀ H'', Shut H H1 H'' → Ret P H0 r h H (tupC ys) h' v H'' := by
                  refine cRes.ok R1 hE1 _ hres VRs.nil fun vs' hvs H'' hs => ?_
                  obtain ⟨R2, E2⟩ := Rl.shut E1 R R1 hs
                  exact ⟨r1, E2, R2, tupC.ok vs' hvs⟩
                unfold RetW
                cases ex <;> first | exact fin | cases hend
              · cases hc
            · cases hc
          · cases hc

/-! ### Calls that hold whatever the heap is -/
def ch0 : CH := ⟨0, .e, 0, []⟩
theorem rl0 (P : Program) (H : Heap) (hg : Sym.good H) : Rl P H [] ch0 H :=
  ⟨rfl, fun _ _ => rfl, fun k b o hb => by simp at hb, fun k k' b b' hb => by simp at hb, fun k b hb => by simp at hb, fun _ _ => rfl, hg⟩
def isTrue : Option (CV × CH) → Bool
  | some (.bool true, _) => true
  | _ => false
theorem isTrue.ok {x : Option (CV × CH)} (h : isTrue x = true) : ∃ h', x = some (.bool true, h') := by
  unfold isTrue at h
  split at h
  · exact ⟨_, rfl⟩
  · cases h
theorem ev_true {P : Program} {plans : FuncId → Plan} {ov : Calls} (hO : CallOk P ov) {n : Nat} {f : FuncId} (hf : (Nat.blt f yB && !(isExt P f)) = true) {xs : List CV} {vs : List Value} (hx : VRs [] xs vs) (h : isTrue (cFn P plans ov n f xs ch0) = true) (H : Heap) (hg : Sym.good H) :
    FnW P f ⟨vs⟩ H fun v H' => v = .bool true ∧ Keep Nil H H' := by
  obtain ⟨h', hc⟩ := isTrue.ok h
  have hcw := cFn.ok plans hO n H f xs ch0 _ h' hc [] H vs (rl0 P H hg) hx
  simp only [Bool.and_eq_true, Bool.not_eq_true'] at hf
  unfold CalW at hcw
  rw [hf.1, hf.2] at hcw
  refine hcw.mono fun v H' ⟨r', E, R, hv⟩ => ?_
  simp only [VR] at hv
  exact ⟨hv, fun b _ hb => R.fr b hb, fun b hb => by rw [R.fr b hb]; exact hb⟩
def noOv : Calls := fun _ _ _ => none
theorem noOv.ok (P : Program) : CallOk P noOv := fun _ _ _ _ _ _ h => by cases h
/-- What keeps all that was there is nothing to the machine. -/
theorem ret_keep {P : Program} {H0 : Heap} {r : List RB} {h : CH} {H H' : Heap} {y : CV} {v : Value} (R : Rl P H0 r h H) (k : Keep Nil H H') (hv : VR r y v) : Ret P H0 r h H y h v H' := by
  have same : ∀ (k : Nat) (b : RB), r[k]? = some b → live h k = true → H' b.blk = H b.blk := fun j b hb hl => by
    obtain ⟨o, ho⟩ := R.thr hb hl
    exact k.same _ (fun x => x) (by rw [ho]; simp)
  refine ⟨r, ⟨Pre.refl _, rfl, fun _ h => h, fun j b hb hl _ _ => ⟨same j b hb hl, hl⟩⟩, ⟨R.len, R.top, fun j b o hb ho => ?_, R.inj, R.new, fun b hb => ?_, R.good⟩, hv⟩
  · have hB := R.blk j b o hb ho
    exact BR.same' (fun hn => same j b hb (live_of ho hn)) hB
  · have h1 := R.fr b hb
    rw [k.same b (fun x => x) (by rw [h1]; exact hb), h1]
/-- One function without arguments that is known to return true. -/
def ovT (F : FuncId) : Calls := fun f xs h => match Nat.beq f F, xs with
  | true, [] => some (.bool true, h)
  | _, _ => none
theorem ovT.ok {P : Program} {F : FuncId} (hlt : Nat.blt F yB = true) (hF : ∀ H0 H, Sym.good H0 → (∀ b, H0 b ≠ none → H b = H0 b) → FnW P F ⟨[]⟩ H fun v H' => v = .bool true ∧ Keep Nil H H') : CallOk P (ovT F) := by
  intro H0 f xs h y h' hc r H vs R hv
  unfold ovT at hc
  split at hc
  · rename_i hf
    cases hc
    simp only [VRs] at hv
    subst hv
    rw [Nat.eq_of_beq_eq_true hf]
    refine CalW.fn hlt ?_
    exact (hF H0 H R.good R.fr).mono fun v H' ⟨h1, h2⟩ => ret_keep R h2 (by rw [h1]; rfl)
  · cases hc
/-- One of two. -/
def ovOr (a b : Calls) : Calls := fun f xs h => match a f xs h with
  | some x => some x
  | none => b f xs h
theorem ovOr.ok {P : Program} {a b : Calls} (ha : CallOk P a) (hb : CallOk P b) : CallOk P (ovOr a b) := by
  intro H0 f xs h y h' hc
  unfold ovOr at hc
  split at hc
  · rename_i hx; cases hc; exact ha H0 f xs h y h' hx
  · exact hb H0 f xs h y h' hc
end
end Go.Ev
