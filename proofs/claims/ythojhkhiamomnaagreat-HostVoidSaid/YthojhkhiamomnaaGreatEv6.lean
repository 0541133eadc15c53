/-
  append, copy, clear.
-/
import Derived.Test.YthojhkhiamomnaaGreatEv5
noncomputable section
set_option linter.all false
namespace Go.Ev
variable [Sym]
open Go.Sh
section
variable {P : Program} {H0 : Heap} {r : List RB} {h : CH} {H : Heap}

/-- The block of a row: how many cells it has, and of what type. -/
def dimOf (h : CH) (k : Nat) : Option (Nat × TypeId) := match h.t.get k with
  | some (.cells n _ _ T) => some (n, T)
  | _ => none
def cApp (P : Program) (ats : List TypeId) (xs : List CV) (h : CH) : Option (CV × CH) := match ats, xs with
  | [st, xt], [s, x] => (match P.underlying st, P.underlying xt with
    | some (.slice e), some (.slice _) => (match P.info? e, zeroC P e with
      | some it, some z => (match rowOf h it.size x with
        | some (n, new) => (match !(Nat.beq it.bytes 0) && Nat.beq z.length it.size && plainsB new with
          | true => (match s with
            | .nils => (match Nat.beq n 0 with
              | true => some (.nils, h)
              | false => (match Nat.ble (n * it.bytes) (2 ^ 48) with
                | true => some (.sl h.n 0 n n true, h.add (rowO new e))
                | false => none))
            | .sl k o len cap ex => (match dimOf h k with
              | some (N, T) => (match Nat.ble (o + cap * it.size) N && (!ex || Nat.beq T e) && Nat.ble ((2 * (len + n) + 192) * it.bytes) (2 ^ 48) with
                | true => (match Nat.ble (len + n) cap with
                  | true => (match wrs h k (o + len * it.size) new with
                    | some h' => some (.sl k o (len + n) cap ex, h')
                    | none => none)
                  | false => (match rds h k o (len * it.size) with
                    | some old => (match ex with
                      | true => some (.sl h.n 0 (len + n) (len + n) true, (h.wr k .gone).add (rowO (old ++ new) e))
                      | false => some (.sl h.n 0 (len + n) (len + n) true, h.add (rowO (old ++ new) e)))
                    | none => none))
                | false => none)
              | none => none)
            | _ => none)
          | false => none)
        | none => none)
      | _, _ => none)
    | _, _ => none)
  | _, _ => none

theorem reads_of {k o n : Nat} {b : RB} {xs : List CV} (R : Rl P H0 r h H) (hb : r[k]? = some b) (hx : rds h k o n = some xs) : ∃ vs, VRs r xs vs ∧ Reads H (some ⟨b.blk, b.base + o, none⟩) n vs := by
  obtain ⟨a, c, vs, e, hv, hr⟩ := rowOf.ok (sz := 1) (x := .sl k o n n false) (xs := xs) (n := n) (v := .slice (some ⟨b.blk, b.base + o, none⟩) n n) R (by unfold rowOf; simp only; rw [Nat.mul_one, hx]) ⟨b, hb, rfl⟩
  cases e
  rw [Nat.mul_one] at hr
  exact ⟨vs, hv, hr⟩

theorem BR.app {m off ext l1 T : Nat} {c : Array Value} {old new : List CV} {ovs nvs : List Value} {H' : Heap} (hB : H' m = some (.cells (putRow c (off + l1) nvs) T (0, 0))) (hov : VRs r old ovs) (hnv : VRs r new nvs) (hl : ovs.length = l1)
    (hc : ∀ j, j < l1 → c[off + j]? = ovs[j]?) (hroom : off + (old.length + new.length) + ext * szT P T ≤ c.size) : BR P r ⟨m, off, ext⟩ H' (rowO (old ++ new) T) := by
  have hl3 := hov.len
  have hl4 := hnv.len
  refine ⟨_, hB, ?_, fun i hi => ?_⟩
  · rw [putRow_size]
    simp only [List.length_append]
    exact hroom
  · simp only [List.length_append] at hi
    have ha : atC und (Tr.fill .e 0 (old ++ new)) i = (old ++ new).getD i und := by
      rw [atC_fill, if_pos (by simp only [List.length_append]; omega), Nat.sub_zero]
    show ∃ v, (putRow c (off + l1) nvs)[off + i]? = some v ∧ VR r (atC und (Tr.fill .e 0 (old ++ new)) i) v
    rw [putRow_get _ _ _ _ (by omega), ha]
    by_cases hlt : i < l1
    · rw [if_neg (by omega)]
      obtain ⟨v, h1, h2⟩ := hov.get i _ (List.getElem?_eq_getElem (by omega))
      refine ⟨v, by rw [hc i hlt]; exact h1, ?_⟩
      rw [List.getD_eq_getElem?_getD, List.getElem?_append_left (by omega), List.getElem?_eq_getElem (by omega)]
      exact h2
    · rw [if_pos (by omega)]
      obtain ⟨v, h1, h2⟩ := hnv.get (i - l1) _ (List.getElem?_eq_getElem (by omega))
      refine ⟨v, by rw [show off + i - (off + l1) = i - l1 by omega]; exact h1, ?_⟩
      rw [List.getD_eq_getElem?_getD, List.getElem?_append_right (by omega)]
      rw [show i - old.length = i - l1 by omega, List.getElem?_eq_getElem (by omega)]
      exact h2

theorem cApp.ok (R : Rl P H0 r h H) {ats : List TypeId} {xs : List CV} {vs : List Value} {t : TypeId} {z : CV} {h' : CH} {K : Value → Heap → Prop} (hc : cApp P ats xs h = some (z, h')) (hv : VRs r xs vs) (hk : Out P H0 r h H z h' K) :
    AppW P ⟨ats⟩ t vs H K := by
  unfold cApp at hc
  split at hc
  · rename_i st xt s x
    simp only [VRs] at hv
    obtain ⟨v, _, rfl, hs, u, _, rfl, hx, rfl⟩ := hv
    split at hc
    · rename_i e xe hst hxt
      split at hc
      · rename_i it z0 hi hz
        obtain ⟨zs, hzs, hvz⟩ := zeroC.ok hz r
        split at hc
        · rename_i n new hrow
          obtain ⟨xb, xc, nvs, rfl, hnv, hnr⟩ := rowOf.ok R hrow hx
          split at hc
          · rename_i hbb
            simp only [Bool.and_eq_true, Bool.not_eq_true'] at hbb
            obtain ⟨⟨hb0, hzl⟩, hpl⟩ := hbb
            have hb0 := beq_false hb0
            have hzl' : zs.length = it.size := by rw [hvz.len]; exact beq_true hzl
            have hpl' := plainsB.ok hpl hnv
            split at hc
            · -- nil
              simp only [VR] at hs
              subst hs
              split at hc
              · rename_i hn
                have hn := beq_true hn
                subst hn
                cases hc
                refine AppW.intro2 hst hxt hi rfl rfl hb0 hzs hzl' (old := []) (by exact ⟨by simp, by simp⟩) hnr (.inr ⟨rfl, by simp⟩) (fun _ => ⟨rfl, hk _ _ _ (Ex.refl _ _ _) R (by simp only [VR])⟩) (fun h => absurd h (by omega))
              · rename_i hn
                have hn := beq_false hn
                split at hc
                · rename_i hle
                  have hle := Nat.le_of_ble_eq_true hle
                  cases hc
                  refine AppW.intro2 hst hxt hi rfl rfl hb0 hzs hzl' (old := []) (by exact ⟨by simp, by simp⟩) hnr (.inr ⟨rfl, by rw [Nat.zero_add]; exact hle⟩) (fun h => absurd h (by omega)) (fun _ m cap hm hcap _ => ?_)
                  have hlr : (repL (cap - (0 + n)) zs).length = (cap - (0 + n)) * szT P e := by
                    rw [repL_length, hzl']; unfold szT szOf; rw [hi]
                  obtain ⟨R', E'⟩ := R.row (T := e) (ext := cap - (0 + n)) (rest := repL (cap - (0 + n)) zs) hm hnv hlr
                  refine hk _ _ _ E' R' ⟨⟨m, 0, cap - (0 + n)⟩, ?_, ?_⟩
                  · rw [← R.len]; exact last_get _
                  · simp only [capOf, Nat.zero_add]
                    rw [Nat.zero_add] at hcap
                    rw [Nat.add_sub_cancel' hcap]
                · cases hc
            · rename_i k o len cap ex
              simp only [VR] at hs
              obtain ⟨b, hb, rfl⟩ := hs
              split at hc
              · rename_i N T hdim
                unfold dimOf at hdim
                split at hdim
                · rename_i N' d t' T' hg
                  cases hdim
                  obtain ⟨b', c, hb', hB1, hB2, hB3⟩ := R.cells hg
                  rw [hb] at hb'; cases hb'
                  split at hc
                  · rename_i hbb
                    simp only [Bool.and_eq_true, Bool.or_eq_true, Bool.not_eq_true'] at hbb
                    obtain ⟨⟨ho, hex⟩, hfit⟩ := hbb
                    have ho := Nat.le_of_ble_eq_true ho
                    have hfit := Nat.le_of_ble_eq_true hfit
                    have hszT : ex = true → szT P T = it.size := by
                      intro he
                      rcases hex with h | h
                      · rw [he] at h; cases h
                      · rw [beq_true h]; unfold szT szOf; rw [hi]
                    have hroom : b.base + o + capOf b cap ex * it.size ≤ c.size := by
                      cases ex with
                      | true => rw [← hszT rfl] at ho ⊢; simp only [capOf, Nat.add_mul]; omega
                      | false => simp only [capOf]; omega
                    split at hc
                    · rename_i hle
                      have hle := Nat.le_of_ble_eq_true hle
                      split at hc
                      · rename_i h1 hw
                        cases hc
                        obtain ⟨c2, T2, e1, e2, e3⟩ := R.wrs hw hb hnv
                        rw [hB1] at e1; cases e1
                        have hge := capOf_ge b cap ex
                        have hmul : len * it.size + n * it.size ≤ cap * it.size := by rw [← Nat.add_mul]; exact Nat.mul_le_mul_right _ hle
                        have hold : ∃ old, Reads H (some ⟨b.blk, b.base + o, none⟩) (len * it.size) old := by
                          refine ⟨(c.toList.drop (b.base + o)).take (len * it.size), ?_, fun _ => ⟨rfl, c, _, _, hB1, fun j hj => ?_⟩⟩
                          · simp only [List.length_take, List.length_drop, Array.length_toList]
                            omega
                          · rw [List.getElem?_take_of_lt hj, List.getElem?_drop]; simp
                        obtain ⟨old, hold⟩ := hold
                        refine AppW.intro2 hst hxt hi rfl rfl hb0 hzs hzl' hold hnr (.inl hfit) (fun _ => ⟨rfl, c, _, hB1, hroom, hpl', fun H' f1 f2 => ?_⟩) (fun h => absurd h (by omega))
                        obtain ⟨R', E'⟩ := e3 H' (by rw [show b.base + (o + len * it.size) = b.base + o + len * it.size by omega]; exact f1) f2
                        exact hk _ _ _ E' R' ⟨b, hb, rfl⟩
                      · cases hc
                    · rename_i hgt
                      have hgt : ¬ len + n ≤ cap := fun h => by rw [Nat.ble_eq_true_of_le h] at hgt; cases hgt
                      split at hc
                      · rename_i old hrd
                        obtain ⟨ovs, hov, hor⟩ := reads_of R hb hrd
                        have hst' : live h k = true := live_of hg (by simp)
                        have hlr : ∀ cap', (repL (cap' - (len + n)) zs).length = (cap' - (len + n)) * szT P e := fun cap' => by
                          rw [repL_length, hzl']; unfold szT szOf; rw [hi]
                        split at hc
                        · cases hc
                          refine AppW.intro2 hst hxt hi rfl rfl hb0 hzs hzl' hor hnr (.inl hfit) (fun hin => ⟨rfl, c, _, hB1, hroom, hpl', fun H' f1 f2 => ?_⟩) (fun _ m cap' hm hcap' _ => ?_)
                          · -- into the room that there is
                            have hTe : T = e := by
                              rcases hex with h | h
                              · cases h
                              · exact beq_true h
                            subst hTe
                            have hsz := hszT rfl
                            have hl1 := hor.1
                            have hl2 := hnr.1
                            have hl3 := hov.len
                            have hl4 := hnv.len
                            simp only [capOf] at hin hroom
                            have key : ∀ a, (cap + b.ext - (len + n)) + (len + n) = a → a = cap + b.ext := by omega
                            have hsplit : (cap + b.ext) * it.size = len * it.size + n * it.size + (cap + b.ext - (len + n)) * it.size := by
                              rw [← Nat.add_mul, ← Nat.add_mul]; congr 1; omega
                            obtain ⟨R', E'⟩ := R.move (H' := H') (o := rowO (old ++ new) T) (x := ⟨b.blk, b.base + o, cap + b.ext - (len + n)⟩) hb hst' rfl f2 (by
                              refine BR.app f1 (VRs.mono (Pre.push r _) _ _ hov) (VRs.mono (Pre.push r _) _ _ hnv) hl1 (fun j hj => ?_) ?_
                              · obtain ⟨_, c', T', fr', hc', hcc⟩ := hor.2 (by omega)
                                have hc' : H b.blk = _ := hc'
                                rw [hB1] at hc'; cases hc'
                                exact hcc j hj
                              · rw [hsz]; omega)
                            refine hk _ _ _ E' R' ⟨_, by rw [← R.len]; exact last_get _, ?_⟩
                            simp only [capOf, Nat.add_zero]
                            congr 1
                            omega
                          · rw [List.append_assoc] at *
                            obtain ⟨R', E'⟩ := R.grown (o := rowO (old ++ new) e) (x := ⟨m, 0, cap' - (len + n)⟩) (obj := .cells ⟨ovs ++ (nvs ++ repL (cap' - (len + n)) zs)⟩ e) hb hst' hm rfl (by
                              rw [← List.append_assoc]
                              exact BR.row (VRs.mono (Pre.push r _) _ _ (VRs.append hov hnv)) (hlr cap'))
                            refine hk _ _ _ E' R' ⟨_, by rw [← R.len]; exact last_get _, ?_⟩
                            simp only [capOf, Nat.add_zero]
                            congr 1
                            omega
                        · cases hc
                          refine AppW.intro2 hst hxt hi rfl rfl hb0 hzs hzl' hor hnr (.inl hfit) (fun hin => absurd hin (by simp only [capOf]; omega)) (fun _ m cap' hm hcap' _ => ?_)
                          obtain ⟨R', E'⟩ := R.row (T := e) (ext := cap' - (len + n)) (rest := repL (cap' - (len + n)) zs) hm (VRs.append hov hnv) (hlr cap')
                          refine hk _ _ _ E' R' ⟨_, by rw [← R.len]; exact last_get _, ?_⟩
                          simp only [capOf, Nat.add_zero]
                          congr 1
                          omega
                      · cases hc
                  · cases hc
                · cases hdim
              · cases hc
            · cases hc
          · cases hc
        · cases hc
      · cases hc
    · cases hc
  · cases hc

/-! ### copy -/
def cCopy (P : Program) (ats : List TypeId) (xs : List CV) (h : CH) : Option (CV × CH) := match ats, xs with
  | [st, _], [s, x] => (match P.underlying st with
    | some (.slice e) => (match szOf P e, s with
      | some sz, .sl k o len _ _ => (match rowOf h sz x, dimOf h k with
        | some (n, new), some (N, _) => (match Nat.ble (o + len * sz) N && plainsB (new.take (Nat.min n len * sz)) with
          | true => (match wrs h k o (new.take (Nat.min n len * sz)) with
            | some h' => some (.int .i64 (Nat.min n len : Nat), h')
            | none => none)
          | false => none)
        | _, _ => none)
      | _, _ => none)
    | _ => none)
  | _, _ => none
theorem cCopy.ok (R : Rl P H0 r h H) {ats : List TypeId} {xs : List CV} {vs : List Value} {t : TypeId} {z : CV} {h' : CH} {K : Value → Heap → Prop} (hc : cCopy P ats xs h = some (z, h')) (hv : VRs r xs vs) (hk : Out P H0 r h H z h' K) :
    CopyW P ⟨ats⟩ t vs H K := by
  unfold cCopy at hc
  split at hc
  · rename_i st xt s x
    simp only [VRs] at hv
    obtain ⟨v, _, rfl, hs, u, _, rfl, hx, rfl⟩ := hv
    split at hc
    · rename_i e hst
      split at hc
      · rename_i sz k o len cap ex hsz
        simp only [VR] at hs
        obtain ⟨b, hb, rfl⟩ := hs
        split at hc
        · rename_i n new N T hrow hdim
          obtain ⟨xb, xc, nvs, rfl, hnv, hnr⟩ := rowOf.ok R hrow hx
          unfold dimOf at hdim
          split at hdim
          · rename_i N' d t' T' hg
            cases hdim
            obtain ⟨b', c, hb', hB1, hB2, hB3⟩ := R.cells hg
            rw [hb] at hb'; cases hb'
            split at hc
            · rename_i hbb
              simp only [Bool.and_eq_true] at hbb
              have ho := Nat.le_of_ble_eq_true hbb.1
              have hnt := VRs.take (Nat.min n len * sz) hnv
              have hpl := plainsB.ok hbb.2 hnt
              split at hc
              · rename_i h1 hw
                cases hc
                obtain ⟨c2, T2, e1, e2, e3⟩ := R.wrs hw hb hnt
                rw [hB1] at e1; cases e1
                refine CopyW.intro (new := nvs.take (Nat.min n len * sz)) hst hsz hB1 (by omega) (hnr.take (Nat.mul_le_mul_right _ (Nat.min_le_left _ _))) hpl fun H' f1 f2 => ?_
                obtain ⟨R', E'⟩ := e3 H' f1 f2
                exact hk _ _ _ E' R' rfl
              · cases hc
            · cases hc
          · cases hdim
        · cases hc
      · cases hc
    · cases hc
  · cases hc
end
end Go.Ev
