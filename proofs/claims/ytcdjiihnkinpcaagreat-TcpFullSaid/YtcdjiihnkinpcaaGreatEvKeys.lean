/-
  What the machine is told of slices.Sorted of a map's keys.
-/
import Derived.Test.YtcdjiihnkinpcaaGreatSortK
import Derived.Test.YtcdjiihnkinpcaaGreatEv11
noncomputable section
set_option linter.all false
set_option maxRecDepth 100000
namespace Go.Proofs.YtcdjiihnkinpcaaGreat
open Go.Sh Go.Pc Go.Ev

def keyL : List (CV × CV × Nat) → Option (List Nat)
  | [] => some []
  | (.int .i64 (.ofNat n), _, _) :: es => (match keyL es with
    | some l => some (n :: l)
    | none => none)
  | _ => none
def bornB (ck : Nat) : List (CV × CV × Nat) → List Nat → Bool
  | [], _ => true
  | (_, _, b) :: es, seen => match Nat.blt b ck, memN b seen with
    | true, false => bornB ck es (b :: seen)
    | _, _ => false
def insN (n : Nat) : List Nat → List Nat
  | [] => [n]
  | m :: l => match Nat.ble n m with
    | true => n :: m :: l
    | false => m :: insN n l
def sortN : List Nat → List Nat
  | [] => []
  | n :: l => insN n (sortN l)
def cvN (l : List Nat) : List CV := l.map fun n => .int .i64 (.ofNat n)
theorem insN_perm (n : Nat) : ∀ l, (insN n l).Perm (n :: l)
  | [] => List.Perm.refl _
  | m :: l => by
    simp only [insN]
    split
    · exact List.Perm.refl _
    · exact ((insN_perm n l).cons m).trans (List.Perm.swap _ _ _)
theorem sortN_perm : ∀ l, (sortN l).Perm l
  | [] => List.Perm.refl _
  | n :: l => (insN_perm n _).trans ((sortN_perm l).cons n)
theorem insN_sorted (n : Nat) : ∀ {l : List Nat}, l.Pairwise (· ≤ ·) → (insN n l).Pairwise (· ≤ ·)
  | [], _ => by simp [insN]
  | m :: l, h => by
    simp only [insN]
    rw [List.pairwise_cons] at h
    split
    · rename_i hb
      have hb := Nat.le_of_ble_eq_true hb
      rw [List.pairwise_cons]
      refine ⟨fun x hx => ?_, List.pairwise_cons.2 h⟩
      rcases List.mem_cons.1 hx with rfl | hx
      · exact hb
      · exact Nat.le_trans hb (h.1 x hx)
    · rename_i hb
      have hb : ¬ n ≤ m := fun hle => by rw [Nat.ble_eq_true_of_le hle] at hb; cases hb
      rw [List.pairwise_cons]
      refine ⟨fun x hx => ?_, insN_sorted n h.2⟩
      rcases List.mem_cons.1 ((insN_perm n l).mem_iff.1 hx) with rfl | hx
      · omega
      · exact h.1 x hx
theorem sortN_sorted : ∀ l, (sortN l).Pairwise (· ≤ ·)
  | [] => List.Pairwise.nil
  | n :: l => insN_sorted n (sortN_sorted l)
theorem memN_iff {k : Nat} {l : List Nat} (h : memN k l = false) : k ∉ l := by
  induction l with
  | nil => simp
  | cons j l ih =>
    simp only [memN] at h
    split at h
    · cases h
    · rename_i hb
      intro hm
      rcases List.mem_cons.1 hm with rfl | hm
      · rw [show Nat.beq k k = true from Nat.beq_refl k] at hb; cases hb
      · exact ih h hm
def keyOf (e : MapEntry) : Int := match e.key with
  | .int .i64 n => n
  | _ => 0
section
variable [Sym]
theorem keyL_ok {r : List RB} : ∀ {es : List (CV × CV × Nat)} {ms : List MapEntry} {l : List Nat}, MR r es ms → keyL es = some l → (∀ e ∈ ms, e.key = .int .i64 (keyOf e)) ∧ ms.map keyOf = l.map (fun n => Int.ofNat n)
  | [], ms, l, h, hk => by
    simp only [MR] at h; subst h
    simp only [keyL, Option.some.injEq] at hk; subst hk
    exact ⟨(fun e he => by cases he), rfl⟩
  | (k, v, b) :: es, ms, l, h, hk => by
    simp only [MR] at h
    obtain ⟨m, us, rfl, h1, h2, h3, h4⟩ := h
    unfold keyL at hk
    split at hk
    · rename_i e; cases e
    · rename_i n v' b' es' e
      cases e
      split at hk
      · rename_i l' hl'
        cases hk
        obtain ⟨q1, q2⟩ := keyL_ok h4 hl'
        have h1 : m.key = .int .i64 (.ofNat n) := h1
        have hk : keyOf m = .ofNat n := by unfold keyOf; rw [h1]
        refine ⟨fun e he => ?_, by simp only [List.map_cons, q2, hk]⟩
        rcases List.mem_cons.1 he with rfl | he
        · rw [hk]; exact h1
        · exact q1 e he
      · cases hk
    · cases hk
theorem bornB_ok {r : List RB} {ck : Nat} : ∀ {es : List (CV × CV × Nat)} {ms : List MapEntry} {seen : List Nat}, MR r es ms → bornB ck es seen = true → (∀ e ∈ ms, e.born < ck) ∧ (ms.map (·.born)).Nodup ∧ ∀ e ∈ ms, e.born ∉ seen
  | [], ms, seen, h, hk => by
    simp only [MR] at h; subst h
    exact ⟨(fun e he => by cases he), List.nodup_nil, (fun e he => by cases he)⟩
  | (k, v, b) :: es, ms, seen, h, hk => by
    simp only [MR] at h
    obtain ⟨m, us, rfl, h1, h2, h3, h4⟩ := h
    simp only [bornB] at hk
    split at hk
    · rename_i hlt hnm
      obtain ⟨q1, q2, q3⟩ := bornB_ok h4 hk
      have hlt : m.born < ck := by rw [h3]; simpa using hlt
      refine ⟨fun e he => ?_, List.nodup_cons.2 ⟨fun hm => ?_, q2⟩, fun e he => ?_⟩
      · rcases List.mem_cons.1 he with rfl | he
        · exact hlt
        · exact q1 e he
      · obtain ⟨x, hx, hxe⟩ := List.mem_map.1 hm
        exact q3 x hx (by rw [hxe]; show m.born ∈ _; rw [h3]; exact List.mem_cons_self)
      · rcases List.mem_cons.1 he with rfl | he
        · rw [h3]; exact memN_iff hnm
        · exact fun hs => q3 e he (List.mem_cons_of_mem _ hs)
    · cases hk
theorem cvN_ok {r : List RB} : ∀ l : List Nat, VRs r (cvN l) (ivs (l.map fun n => Int.ofNat n))
  | [] => VRs.nil
  | n :: l => VRs.cons (show VR r (.int .i64 (.ofNat n)) (.int .i64 (.ofNat n)) from rfl) (cvN_ok l)
end
/-- A heap without a block. -/
def out1 (H : Heap) (m : Nat) : Heap := ⟨fun b => if b = m then none else H b, by
  obtain ⟨N, h⟩ := H.fin
  refine ⟨N, fun k hk => ?_⟩
  split
  · rfl
  · exact h k hk⟩
/-- A map's keys, in order. -/
def ovKeys : Ev.Calls := fun f xs h => match Nat.beq f f_slices_Sortedaint, xs with
  | true, [.fn g [.ptr k o]] => (match Nat.beq g fKeys, rd h k o with
    | true, some (.mp km) => (match h.t.get km with
      | some (.map es ck) => (match keyL es, bornB ck es [], Nat.ble es.length 1000 with
        | some l, true, true => (match sortN l with
          | [] => some (.sl0, h)
          | y :: ys => some (.sl h.n 0 (y :: ys).length (y :: ys).length true, h.add (rowO (cvN (y :: ys)) T_int)))
        | _, _, _ => none)
      | _ => none)
    | _, _ => none)
  | _, _ => none
theorem ovKeys.ok [Sym] : CallOk Tryz.prog ovKeys := by
  intro H0 f xs h y h' hc r H vs R hv
  unfold ovKeys at hc
  split at hc
  · rename_i g k o hf
    split at hc
    · rename_i km hg hrd
      split at hc
      · rename_i es ck hm
        split at hc
        · rename_i l hl hb hn
          rw [Nat.eq_of_beq_eq_true hf]
          simp only [VRs, VR] at hv
          obtain ⟨v, us, rfl, ⟨ws, rfl, w, ws', rfl, ⟨b, hbk, rfl⟩, rfl⟩, rfl⟩ := hv
          rw [Nat.eq_of_beq_eq_true hg]
          refine CalW.fn (by kernel_rfl) ?_
          obtain ⟨u, hu, hur⟩ := R.rd hrd hbk
          simp only [VR] at hur
          obtain ⟨bm, hbm, rfl⟩ := hur
          obtain ⟨ms, hH, hms⟩ := R.blk km bm _ hbm hm
          obtain ⟨q1, q2⟩ := keyL_ok hms hl
          obtain ⟨p1, p2, _⟩ := bornB_ok hms hb
          have hlen : ms.length ≤ 1000 := by
            have h1 : ∀ {es : List (CV × CV × Nat)} {ms : List MapEntry}, MR r es ms → ms.length = es.length := by
              intro es
              induction es with
              | nil => intro ms h; simp only [MR] at h; subst h; rfl
              | cons e es ih =>
                obtain ⟨k, v, b⟩ := e
                intro ms h
                simp only [MR] at h
                obtain ⟨m, us, rfl, _, _, _, h4⟩ := h
                simp [ih h4]
            rw [h1 hms]; exact Nat.le_of_ble_eq_true hn
          refine FnW.mono (keys_sorted (f := keyOf) hu hH p1 p2 q1 rfl hlen) fun v H' hv => ?_
          obtain ⟨a, cap, zs, rfl, kp, hp, hs, ho⟩ := hv
          have hz : zs = (sortN l).map fun n => Int.ofNat n := by
            refine List.Perm.eq_of_pairwise (le := (· ≤ ·)) (fun a b _ _ h1 h2 => by omega) hs ?_ ?_
            · rw [List.pairwise_map]
              exact (sortN_sorted l).imp fun h => by simpa using h
            · refine hp.trans ?_
              rw [q2]
              exact ((sortN_perm l).map _).symm
          split at hc
          · rename_i hnil
            cases hc
            rw [hnil] at hz
            subst hz
            exact ret_keep R kp ⟨a, cap, rfl⟩
          · rename_i y0 ys hys
            cases hc
            rw [hys] at hz
            have hzl : zs.length = (y0 :: ys).length := by rw [hz, List.length_map]
            obtain ⟨hlz, hle, ho2⟩ := ho
            rcases ho2 with ⟨_, h0, _⟩ | ⟨m, rest, rfl, h0, hB, hr⟩
            · rw [hzl] at h0; simp at h0
            · have hne : ∀ (j : Nat) (x : RB), r[j]? = some x → live h j = true → x.blk ≠ m := fun j x hx hl e => by
                obtain ⟨o', ho'⟩ := R.thr hx hl
                rw [e, h0] at ho'; cases ho'
              have hH0m : H0 m = none := R.fresh h0
              obtain ⟨R1, E1⟩ := R.other (H' := (out1 H' m)) (fun j x hx hl => by
                show (if x.blk = m then none else H' x.blk) = _
                rw [if_neg (hne j x hx hl)]
                obtain ⟨o', ho'⟩ := R.thr hx hl
                exact kp.same _ (fun x => x) (by rw [ho']; simp)) (fun x hx => by
                show (if x = m then none else H' x) = _
                rw [if_neg (fun e => hx (by rw [e]; exact hH0m))]
                rw [kp.same x (fun x => x) (by rw [R.fr x hx]; exact hx)]
                exact R.fr x hx)
              obtain ⟨R2, E2⟩ := R1.row (T := T_int) (ext := cap - zs.length) (xs := cvN (y0 :: ys)) (vs := ivs zs) (rest := rest) (m := m) (by show (if m = m then none else H' m) = none; simp) (by rw [hz]; exact cvN_ok _) (by
                rw [show szT Tryz.prog T_int = 1 by kernel_rfl]; exact hr)
              have hHe : (Heap.upd (out1 H' m) m (.cells ⟨ivs zs ++ rest⟩ T_int (0, 0))) = H' := Heap.ext fun x => by
                by_cases e : x = m
                · subst e; rw [upd_eq]; exact hB.symm
                · rw [upd_ne e]; show (if x = m then none else H' x) = _; rw [if_neg e]
              rw [hHe] at R2 E2
              refine ⟨_, E1.trans E2, R2, ⟨m, 0, cap - zs.length⟩, ?_, ?_⟩
              · rw [← R.len]; exact last_get _
              · rw [hzl]
                simp only [capOf]
                rw [show (y0 :: ys).length + (cap - (y0 :: ys).length) = cap by rw [← hzl]; omega]
        · cases hc
      · cases hc
    · cases hc
  · cases hc
end Go.Proofs.YtcdjiihnkinpcaaGreat
