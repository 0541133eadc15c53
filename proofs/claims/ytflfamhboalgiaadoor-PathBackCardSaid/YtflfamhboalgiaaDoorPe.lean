/-
  The law of paths: what is prepended is longer, and a merged path has the first one's length.
-/
import Derived.Test.YtflfamhboalgiaaDoorPC
set_option linter.all false
set_option maxRecDepth 10000
namespace Go.Proofs.YtflfamhboalgiaaDoor
open Go.Sh
theorem Zhy (s : Seg) (p : List Seg) : lenP (s :: p) = (if s.1 then 1 else s.2.length) + lenP p := by simp [lenP]
theorem Zcnw (p : List Seg) (u : UInt32) (n : Nat) : lenP (Zbm p u n) = lenP p + n := by
  unfold Zbm; split; omega
  . match p with
    | [] => simp [Zei, lenP]
    | (true, l) :: r => simp [Zei, Zhy]; omega
    | (false, l) :: r => simp [Zei, Zhy]; omega
theorem Zcgs (p : List Seg) (u : UInt32) {n : Nat} (h : n ≠ 0) : Zqv (Zbm p u n) = some u := by
  obtain ⟨k, rfl⟩ : ∃ k, n = k + 1 := ⟨n - 1, by omega⟩
  unfold Zbm; rw [if_neg h]; cases Zei p with
  | none => rfl
  | some lr => rfl
theorem Zcik (p : List Seg) (u : UInt32) {n : Nat} (h : n ≠ 0) : hasP (Zbm p u n) u = true := by
  obtain ⟨k, rfl⟩ : ∃ k, n = k + 1 := ⟨n - 1, by omega⟩
  unfold Zbm; rw [if_neg h]; cases Zei p with
  | none => simp [hasP, hasS, List.replicate_succ]
  | some lr => simp [hasP, hasS, List.replicate_succ]
theorem Zbta {A : Type} (x : A) {l : List A} (h : l ≠ []) : (x :: l).getLast? = l.getLast? := by
  cases l with
  | nil => exact absurd rfl h
  | cons y r => rfl
theorem Zcrs (p : List Seg) (u : UInt32) (n : Nat) {x : UInt32} (h : Zep p = some x) : Zep (Zbm p u n) = some x := by
  unfold Zbm; split; exact h
  . match p, h with
    | [], h => simp [Zep] at h
    | (true, l) :: r, h =>
      show Zep ((false, List.replicate n u) :: (true, l) :: r) = some x; unfold Zep at h ⊢; rw [Zbta _ (by simp)]; exact h
    | (false, l) :: r, h =>
      show Zep ((false, List.replicate n u ++ l) :: r) = some x; unfold Zep at h ⊢; cases r with
      | nil =>
        have h : l.getLast? = some x := h; show (List.replicate n u ++ l).getLast? = some x; rw [List.getLast?_append, h]; rfl
      | cons y r =>
        rw [Zbta _ (by simp)] at h ⊢; exact h
theorem Zzh : ∀ (p : List Seg) (n : Nat), lenP (Zbh p n) = min n (lenP p)
  | [], n => by rw [Zbqf]; simp [lenP]
  | s :: p, 0 => by rw [Zbya]; simp [lenP]
  | s :: p, n + 1 => by
    cases h : s.1 with
    | true =>
      rw [Zbjv h, Zhy, Zhy, Zzh p n, h, if_pos rfl]; omega
    | false =>
      rw [Zbph h, Zhy, Zhy, Zzh p _, h, if_neg (by decide), if_neg (by decide), List.length_take]; omega
theorem Zcus (o r : List Seg) : lenP (Zcw o r) = lenP o + lenP r := by
  rcases List.eq_nil_or_concat o with rfl | ⟨o, t, rfl⟩
  . have e : Zcw [] r = r := by cases r <;> rfl
    rw [e]; simp [lenP]
  . rw [List.concat_eq_append]; have hl : (o ++ [t]).getLast? = some t := List.getLast?_concat; cases r with
    | nil =>
      have e : Zcw (o ++ [t]) [] = o ++ [t] := by unfold Zcw; rw [hl]; simp
      rw [e]; simp [lenP]
    | cons s r =>
      unfold Zcw; rw [hl]; simp only; split; rename_i h; simp only [Bool.and_eq_true, Bool.not_eq_true'] at h; rw [List.dropLast_concat, Zkg, Zkg, Zhy, Zhy, Zhy, h.1, h.2]; simp [lenP]; omega; rw [Zkg]
theorem Zcbg {p q : List Seg} (h : ¬ lenP p < lenP q) : lenP (Zfe p q) = lenP p := by unfold Zfe; rw [if_neg h, Zcus, Zzh]; omega
theorem Zcnd (p : List Seg) : ∃ (x : Int) (b : Bool), (∀ K : Int -> Bool -> Prop, K x b -> Zpc p K) ∧ ∀ y, Zqv p = some y -> x = (y.toNat : Int) ∧ b = true := by
  cases h : Zqv p with
  | none => exact ⟨0, false, fun K hk => Zbwf p K (by rw [h]; exact hk), fun y hy => by cases hy⟩
  | some y => exact ⟨(y.toNat : Int), true, fun K hk => Zbwf p K (by rw [h]; exact hk), fun z hz => by cases hz; exact ⟨rfl, rfl⟩⟩
theorem Zbuu (p : List Seg) (hl : p.length <= 1000000) (hc : cnt p <= 1000000) : ∃ (x : Int) (b : Bool), (∀ K : Int -> Bool -> Prop, K x b -> Zlt p K) ∧ (∀ y, Zep p = some y -> x = (y.toNat : Int) ∧ b = true) ∧ (Zep p = none -> b = false) := by
  have hs : ∀ s ∈ p, s.2.length <= 1000000 := fun s hs => by have := Zew hs; omega
  cases h : Zep p with
  | none => exact ⟨0, false, fun K hk => Zblq p K hl hs (by rw [h]; exact hk), (fun y hy => by cases hy), fun _ => rfl⟩
  | some y => exact ⟨(y.toNat : Int), true, fun K hk => Zblq p K hl hs (by rw [h]; exact hk), (fun z hz => by cases hz; exact ⟨rfl, rfl⟩), fun h => by cases h⟩
theorem Zcfd (a b : List Seg) (K : Bool -> Prop) (h1 : a.length + cnt a <= 6000) (h2 : b.length + cnt b <= 6000) (hK : K true) : Zxa a b K := by
  unfold Zxa; refine fun _ => Zih a _ (by omega) fun _ _ => Zih b _ (by omega) fun _ => IfB.intro (fun _ => hK) fun h => ?_
  have h := of_decide_eq_false h; obtain ⟨m1, m2⟩ := Zbww a b; refine fun _ => Zbpw a b _ (by omega) (by omega) fun _ _ => Zih _ _ (by omega) fun _ _ => Zih a _ (by omega) fun _ => of_eq hK ?_
  rw [Zcbg (by omega)]
  exact (beq_self_eq_true _).symm
theorem Zcty (p q : List Seg) (u : UInt32) (n : Int) (K : Bool -> Prop) (hK : K true) : Zvg p q (u.toNat : Int) n K := by
  unfold Zvg; obtain ⟨h1, h2⟩ := Zkt p; obtain ⟨h3, h4⟩ := Zkt q; obtain ⟨g1, g2⟩ := Zys p; refine fun _ => Zpi _ fun _ => ifF rfl fun _ => Zft p _ fun _ _ => Zft q _ fun _ _ => Zcol n 40 _ (by decide) (by decide) fun r hr _ => ?_
  generalize fewP p = a at *; generalize fewP q = b at *; have hu : UInt32.ofNat ((u.toNat : Nat) : Int).toNat = u := by rw [Int.toNat_natCast]; simp
  have j1 := Zcfd a b K (by omega) (by omega) hK
  have j0 : Zem a b false K := by unfold Zem; exact ifF rfl j1
  refine fun _ => ⟨by omega, by omega, ?_⟩
  rw [hu]; have hp : Zcb a u (r : Int) = ([], 2) ∨ Zcb a u (r : Int) = ([], 3) ∨ Zcb a u (r : Int) = (Zbm a u r, 0) := by unfold Zcb; split; exact .inl rfl; split; exact .inr (.inl rfl); exact .inr (.inr (by rw [Int.toNat_natCast]))
  rcases hp with e | e | e; rw [e]; exact fun _ => ifF rfl j1; rw [e]; exact fun _ => ifF rfl j1; rw [e]; have c1 := Zbgv a u r; have c2 := Zbin a u r; have c3 := Zcnw a u r; have c4 : r ≠ 0 -> Zqv (Zbm a u r) = some u := fun h => Zcgs a u h; have c5 : r ≠ 0 -> hasP (Zbm a u r) u = true := fun h => Zcik a u h; have c6 : ∀ x, Zep a = some x -> Zep (Zbm a u r) = some x := fun x h => Zcrs a u r h; clear e; generalize Zbm a u r = c at *; obtain ⟨x1, t1, k1, f1⟩ := Zcnd c; obtain ⟨x2, t2, k2, f2, f2'⟩ := Zbuu a (by omega) (by omega)
  obtain ⟨x3, t3, k3, f3, f3'⟩ := Zbuu c (by omega) (by omega)
  have lb := Zjn a; refine fun _ => ifT rfl fun _ => k1 _ fun _ _ => k2 _ fun _ _ => k3 _ fun _ _ => Zih c _ (by omega) fun _ _ => Zih a _ (by omega) fun _ => ?_
  have w : IntKind.wrap .i64 ((lenP a : Int) + (r : Int)) = (lenP c : Int) := by rw [c3, Zg (by omega) (by omega)]; omega
  rw [w]; have tail : IfB t2 (IfB (!t3) (Zem a b true K) (Zem a b ((x2 : Int) != x3) K)) (Zem a b false K) := by
    cases ho : Zep a with
    | none => rw [f2' ho]; exact ifF rfl j0
    | some x =>
      obtain ⟨rfl, rfl⟩ := f2 x ho; obtain ⟨rfl, rfl⟩ := f3 x (c6 x ho); refine ifT rfl (ifF rfl ?_); have : (((x.toNat : Nat) : Int) != ((x.toNat : Nat) : Int)) = false := by simp
      rw [this]; exact j0
  refine ifF (by simp) (IfB.intro (fun h => ?_) fun h => tail)
  have hr0 : r ≠ 0 := fun e => by subst e; simp at h
  obtain ⟨rfl, rfl⟩ := f1 u (c4 hr0); refine ifF rfl (ifF (by simp) fun _ => ⟨(show c.length <= 100000 by omega), (show cnt c <= 1000000 by omega), ?_⟩)
  rw [hu, c5 hr0]; exact fun _ => ifF rfl tail
theorem Zcdk (x : PkTs Ztk) (hw : WfPs Ztk x) : Zvg x.1 x.2.1 x.2.2.1 x.2.2.2.1 fun r => r = true := by
  obtain ⟨p, q, u, n, _⟩ := x; have hu : InR .u32 u := hw.2.2.1; simp only [InR, loI, hiI] at hu; change Int at u; obtain ⟨w, rfl⟩ : ∃ w : Nat, u = w := ⟨u.toNat, by omega⟩
  have hw : (UInt32.ofNat w).toNat = w := by rw [UInt32.toNat_ofNat', Nat.mod_eq_of_lt (by omega)]
  have := Zcty p q (UInt32.ofNat w) n (fun r => r = true) rfl; rw [hw] at this; exact this
end Go.Proofs.YtflfamhboalgiaaDoor
