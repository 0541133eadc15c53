/-
  The law of paths: bytes are read back, and texts.
-/
import Derived.Test.YtflfamhboalgiaaDoorPe
set_option linter.all false
set_option maxRecDepth 10000
namespace Go.Proofs.YtflfamhboalgiaaDoor
open Go.Sh
theorem Znc (x : UInt8) (n : Nat) (h : n % 256 = x.toNat) : UInt8.ofNat n = x := by apply UInt8.toNat_inj.1; rw [UInt8.toNat_ofNat']; exact h
theorem Zccj (four : Bool) (b : List UInt8) (h : b.length = Zcs four) : Zcf four (UInt32.ofNat (numB b)) = b := by
  cases four with
  | true =>
    match b, h with
    | [x, y, z, w], _ =>
      have h1 := UInt8.toNat_lt x; have h2 := UInt8.toNat_lt y; have h3 := UInt8.toNat_lt z; have h4 := UInt8.toNat_lt w; have e : numB [x, y, z, w] = ((x.toNat * 256 + y.toNat) * 256 + z.toNat) * 256 + w.toNat := by simp [numB]
      have eu : (UInt32.ofNat (numB [x, y, z, w])).toNat = ((x.toNat * 256 + y.toNat) * 256 + z.toNat) * 256 + w.toNat := by rw [e, UInt32.toNat_ofNat', Nat.mod_eq_of_lt (by omega)]
      rw [Zbhr, eu, Znc x _ (by omega), Znc y _ (by omega), Znc z _ (by omega), Znc w _ (by omega)]
  | false =>
    match b, h with
    | [x, y], _ =>
      have h1 := UInt8.toNat_lt x; have h2 := UInt8.toNat_lt y; have e : numB [x, y] = x.toNat * 256 + y.toNat := by simp [numB]
      have eu : (UInt32.ofNat (numB [x, y])).toNat = x.toNat * 256 + y.toNat := by rw [e, UInt32.toNat_ofNat', Nat.mod_eq_of_lt (by omega)]
      unfold Zcf; rw [if_neg (by decide), eu, if_neg (by omega)]
      unfold be2; rw [Znc x _ (by omega), Znc y _ (by omega)]
theorem Zgl (four : Bool) : ∀ (n : Nat) (b : List UInt8), n * Zcs four <= b.length -> (decN (Zcs four) n b).flatMap (Zcf four) = b.take (n * Zcs four)
  | 0, b, _ => by simp [decN]
  | n + 1, b, h => by
    have hs : (n + 1) * Zcs four = Zcs four + n * Zcs four := by rw [Nat.succ_mul]; omega
    rw [hs] at h; simp only [decN, List.flatMap_cons]; rw [Zccj four _ (by rw [List.length_take]; omega), Zgl four n _ (by rw [List.length_drop]; omega), hs, List.take_add]
theorem Zbmq (four : Bool) : ∀ (f : Nat) (b : List UInt8) (p : List Seg), Zdt (Zcs four) f b = some p -> Zcd four p = b
  | f, [], p, h => by
    have h : some [] = some p := by cases f <;> exact h
    cases h; rfl
  | 0, _ :: _, p, h => by cases h
  | _ + 1, [_], p, h => by cases h
  | f + 1, k :: n :: r, p, h => by
    simp only [Zdt] at h; split at h
    . rename_i hc; cases hs : Zdt (Zcs four) f (r.drop (n.toNat * Zcs four)) with
      | none => rw [hs] at h; cases h
      | some t =>
        rw [hs] at h; simp only [Option.map_some, Option.some.injEq] at h; subst h; have ih := Zbmq four f _ t hs; have e : Zcd four ((k == 1, decN (Zcs four) n.toNat r) :: t) = Zjf four (k == 1, decN (Zcs four) n.toNat r) ++ Zcd four t := by simp [Zcd]
        rw [e, ih]; unfold Zjf; simp only; rw [Zgl four _ _ hc.2, Zmt]; have hk : (if (k == 1) = true then (1 : UInt8) else 2) = k := by rcases hc.1 with rfl | rfl <;> rfl
        rw [hk]; have hn : UInt8.ofNat n.toNat = n := by simp
        rw [hn]; show k :: n :: (r.take (n.toNat * Zcs four)) ++ r.drop (n.toNat * Zcs four) = _; rw [List.cons_append, List.cons_append, List.take_append_drop]
    cases h
theorem Zcgu {four : Bool} {b : List UInt8} {p : List Seg} (h : Zfy four b = some p) : Zcd four p = b := by unfold Zfy at h; split at h; rename_i q hq; split at h; cases h; exact Zbmq four _ _ _ hq; cases h; cases h
def addS (q : List Seg) (s : Seg) : List Seg := if s.1 then q ++ [s] else match q.getLast? with
  | some (false, l) => q.dropLast ++ [(false, l ++ s.2)]
  | _ => q ++ [s]
def Zhs (p : List Seg) : List Seg := p.foldl addS []
def Zcu : List (List UInt8) -> List (List UInt8)
  | [] => []
  | [x] => [x ++ [125]]
  | x :: y :: r => x :: Zcu (y :: r)
def Zdh (s : Seg) : List (List UInt8) := if s.1 then match Zcu (s.2.map dec) with
  | [] => []
  | x :: r => ([123] ++ x) :: r
  else s.2.map dec
theorem Zbiw {xs : List (List UInt8)} (h : xs ≠ []) : Zcu xs ≠ [] := by
  match xs, h with
  | [x], _ => simp [Zcu]
  | x :: y :: r, _ => simp [Zcu]
theorem Zbsv (c : UInt8) : ∀ {xs : List (List UInt8)}, xs ≠ [] -> Lib.join (Zcu xs) [c] = Lib.join xs [c] ++ [125]
  | [], h => absurd rfl h
  | [x], _ => by rw [Zcu, join_one, join_one]
  | x :: y :: r, _ => by
    have ih := Zbsv c (xs := y :: r) (by simp)
    rw [Zcu, Zfd]; cases hw : Zcu (y :: r) with
    | nil => exact absurd hw (Zbiw (by simp))
    | cons z t =>
      rw [hw] at ih; rw [Zfd, ih]; simp
theorem Zcuu (c : UInt8) (a x : List UInt8) (r : List (List UInt8)) : Lib.join ((a ++ x) :: r) [c] = a ++ Lib.join (x :: r) [c] := by
  cases r with
  | nil => rw [join_one, join_one]
  | cons y r => rw [Zfd, Zfd]; simp
theorem Zbdf {s : Seg} (h : s.2 ≠ []) : Zdh s ≠ [] := by
  unfold Zdh; split
  . cases hw : Zcu (s.2.map dec) with
    | nil => exact absurd hw (Zbiw (by simpa using h))
    | cons x r => simp
  simpa using h
theorem Zbnf {s : Seg} (h : s.2 ≠ []) : Lib.join (Zdh s) [32] = segT s := by
  unfold Zdh segT Zea; cases s.1 with
  | false => rfl
  | true =>
    have hj := Zbsv 32 (xs := s.2.map dec) (by simpa using h)
    rw [if_pos rfl, if_pos rfl]; cases hw : Zcu (s.2.map dec) with
    | nil => exact absurd hw (Zbiw (by simpa using h))
    | cons x r =>
      rw [hw] at hj; simp only; rw [Zcuu, hj]; simp
theorem Zcpo (c : UInt8) {xs ys : List (List UInt8)} (hx : xs ≠ []) (hy : ys ≠ []) : Lib.join (xs ++ ys) [c] = Lib.join xs [c] ++ c :: Lib.join ys [c] := by
  induction xs with
  | nil => exact absurd rfl hx
  | cons x r ih =>
    cases r with
    | nil =>
      cases ys with
      | nil => exact absurd rfl hy
      | cons y ys => rw [List.cons_append, List.nil_append, Zfd, join_one]
    | cons z r =>
      have ih := ih (by simp)
      rw [List.cons_append, List.cons_append, Zfd, ← List.cons_append, ih, Zfd]; simp
theorem Zbqo : ∀ {p : List Seg}, (∀ s ∈ p, s.2 ≠ []) -> Zdj p = Lib.join (p.flatMap Zdh) [32]
  | [], _ => rfl
  | [s], h => by show Lib.join [segT s] [32] = Lib.join (Zdh s ++ []) [32]; rw [join_one, List.append_nil, Zbnf (h s (by simp))]
  | s :: t :: p, h => by
    have ih := Zbqo (p := t :: p) fun x hx => h x (List.mem_cons_of_mem _ hx); have e : Zdj (s :: t :: p) = segT s ++ 32 :: Zdj (t :: p) := by show Lib.join (segT s :: segT t :: p.map segT) [32] = _; rw [Zfd]; rfl
    have hne : (t :: p).flatMap Zdh ≠ [] := by rw [List.flatMap_cons]; intro he; exact Zbdf (h t (by simp)) (List.append_eq_nil_iff.1 he).1
    have e2 : (s :: t :: p).flatMap Zdh = Zdh s ++ (t :: p).flatMap Zdh := rfl; rw [e, ih, e2, Zcpo 32 (Zbdf (h s (by simp))) hne, Zbnf (h s (by simp))]
theorem Zcnl (x : UInt32) : (32 : UInt8) ∉ dec x := Zcsl (Or.inl (by decide))
theorem Zbxx : ∀ {xs : List (List UInt8)}, (∀ x ∈ xs, (32 : UInt8) ∉ x) -> ∀ x ∈ Zcu xs, (32 : UInt8) ∉ x
  | [], _, x, hx => by simp [Zcu] at hx
  | [y], h, x, hx => by
    simp only [Zcu, List.mem_singleton] at hx; subst hx; have := h y (by simp)
    simp [this]
  | y :: z :: r, h, x, hx => by
    simp only [Zcu] at hx; rcases List.mem_cons.1 hx with rfl | hx; exact h _ (by simp)
    exact Zbxx (xs := z :: r) (fun t ht => h t (List.mem_cons_of_mem _ ht)) x hx
theorem Zcnt (s : Seg) : ∀ x ∈ Zdh s, (32 : UInt8) ∉ x := by
  have h0 : ∀ x ∈ s.2.map dec, (32 : UInt8) ∉ x := fun x hx => by obtain ⟨y, _, rfl⟩ := List.mem_map.1 hx; exact Zcnl y
  have hL := Zbxx h0; unfold Zdh; split
  . cases hw : Zcu (s.2.map dec) with
    | nil => intro x hx; simp at hx
    | cons y r =>
      rw [hw] at hL; intro x hx; rcases List.mem_cons.1 hx with rfl | hx
      . have := hL y (by simp)
        simp [this]
      exact hL x (List.mem_cons_of_mem _ hx)
  exact h0
theorem Zbnu (c : UInt8) : ∀ {xs : List (List UInt8)}, xs ≠ [] -> (∀ x ∈ xs, c ∉ x) -> spl c (Lib.join xs [c]) = xs
  | [], h, _ => absurd rfl h
  | [x], _, h => by rw [join_one, Zoz (h x (by simp))]
  | x :: y :: r, _, h => by rw [Zfd, Zxm (h x (by simp)), Zbnu c (xs := y :: r) (by simp) fun z hz => h z (List.mem_cons_of_mem _ hz)]
theorem Zzd {x : UInt32} (h : x ≠ 0) : sysN (dec x) = x.toNat ∧ sysN (dec x) ≠ 0 := by
  have hx := UInt32.toNat_lt x; have hv : val (dec x) = x.toNat := Zwf _; have e : sysN (dec x) = x.toNat := by unfold sysN; rw [hv, if_pos ⟨by omega, rfl⟩]
  refine ⟨e, ?_⟩; rw [e]; intro h0; exact h (UInt32.toNat_inj.1 (by rw [h0]; rfl))
theorem Zbno (x : UInt32) : Zbn (dec x) = false ∧ cutO (dec x) = dec x := by
  have h : Zbn (dec x) = false := by
    unfold Zbn; cases hd : dec x with
    | nil => rfl
    | cons y r =>
      have := Zst x.toNat y (by show y ∈ dec x; rw [hd]; simp)
      have hy : y ≠ 123 := fun e => by subst e; simp at this
      simp [hy]
  exact ⟨h, by unfold cutO; rw [if_neg (by rw [h]; decide)]⟩
theorem Zbjm (x : UInt32) : Zce (dec x) = false ∧ cutC (dec x) = dec x := by
  have h : Zce (dec x) = false := by
    unfold Zce; rcases List.eq_nil_or_concat (dec x) with hd | ⟨l, y, hd⟩; rw [hd]; rfl
    . rw [List.concat_eq_append] at hd; have := Zst x.toNat y (by show y ∈ dec x; rw [hd]; simp)
      have hy : y ≠ 125 := fun e => by subst e; simp at this
      rw [hd, List.getLast?_concat]; simp [hy]
  exact ⟨h, by unfold cutC; rw [if_neg (by rw [h]; decide)]⟩
theorem Zbns (t : List UInt8) : Zce (t ++ [125]) = true ∧ cutC (t ++ [125]) = t := by
  have h : Zce (t ++ [125]) = true := by unfold Zce; rw [List.getLast?_concat]; rfl
  exact ⟨h, by unfold cutC; rw [if_pos h, List.dropLast_concat]⟩
theorem Zbkh (t : List UInt8) : Zbn ([123] ++ t) = true ∧ cutO ([123] ++ t) = t := by have h : Zbn ([123] ++ t) = true := rfl; exact ⟨h, by unfold cutO; rw [if_pos h]; rfl⟩
theorem Zcku (x : UInt32) : Zbn (dec x ++ [125]) = false ∧ cutO (dec x ++ [125]) = dec x ++ [125] := by
  have h : Zbn (dec x ++ [125]) = false := by
    have h0 := (Zbno x).1; unfold Zbn at h0 ⊢; cases hd : dec x with
    | nil => exact absurd hd (Zls _)
    | cons y r => rw [hd] at h0; exact h0
  exact ⟨h, by unfold cutO; rw [if_neg (by rw [h]; decide)]⟩
theorem Zmb (x : UInt32) : UInt32.ofNat x.toNat = x := by simp
theorem Zbdq {q : List Seg} {b : Bool} {x : UInt32} (hx : x ≠ 0) : stepW (q, b) (dec x) = some (Zfc (Zbq q b false) x.toNat, b) := by
  obtain ⟨h1, h2⟩ := Zbno x; obtain ⟨h3, h4⟩ := Zbjm x; obtain ⟨h5, h6⟩ := Zzd hx; unfold stepW; simp only [h1, h2, h3, h4]; have hb : badW b false false (sysN (dec x)) = false := by
    have : (sysN (dec x) == 0) = false := by simpa using h6
    simp [badW, this]
  rw [hb, if_neg (by decide), h5]
  simp
theorem run_in : ∀ (l : List UInt32) (x : UInt32) (q : List Seg) (m : List UInt32) (rest : List (List UInt8)), x ≠ 0 -> (∀ y ∈ l, y ≠ 0) -> runW (Zcu ((x :: l).map dec) ++ rest) (q ++ [(true, m)], true) = runW rest (q ++ [(true, m ++ x :: l)], false)
  | [], x, q, m, rest, hx, _ => by
    show runW ((dec x ++ [125]) :: rest) _ = _; obtain ⟨h1, h2⟩ := Zcku x; obtain ⟨h3, h4⟩ := Zbns (dec x); obtain ⟨h5, h6⟩ := Zzd hx; have : stepW (q ++ [(true, m)], true) (dec x ++ [125]) = some (q ++ [(true, m ++ [x])], false) := by
      unfold stepW; simp only [h1, h2, h3, h4]; have hb : badW true false true (sysN (dec x)) = false := by
        have : (sysN (dec x) == 0) = false := by simpa using h6
        simp [badW, this]
      rw [hb, if_neg (by decide), h5, Zbgh]
      simp only [Bool.not_true, Bool.false_and, Bool.or_false, Bool.false_eq_true, if_false, Zia, Zmb, Bool.and_false]
    simp only [runW, this]
  | y :: l, x, q, m, rest, hx, hl => by
    show runW (dec x :: (Zcu ((y :: l).map dec) ++ rest)) _ = _; have : stepW (q ++ [(true, m)], true) (dec x) = some (q ++ [(true, m ++ [x])], true) := by rw [Zbdq hx, Zbgh]; simp only [Bool.not_true, Bool.false_and, Bool.or_false, Bool.false_eq_true, if_false, Zia, Zmb]
    simp only [runW, this]; rw [run_in l y q (m ++ [x]) rest (hl y (by simp)) fun z hz => hl z (List.mem_cons_of_mem _ hz)]
    simp
theorem Zbdh : ∀ (l : List UInt32) (q : List Seg) (m : List UInt32) (rest : List (List UInt8)), (∀ y ∈ l, y ≠ 0) -> runW (l.map dec ++ rest) (q ++ [(false, m)], false) = runW rest (q ++ [(false, m ++ l)], false)
  | [], q, m, rest, _ => by simp
  | x :: l, q, m, rest, hl => by
    show runW (dec x :: (l.map dec ++ rest)) _ = _; have : stepW (q ++ [(false, m)], false) (dec x) = some (q ++ [(false, m ++ [x])], false) := by
      rw [Zbdq (hl x (by simp)), Zbgh]
      simp only [Bool.not_false, Bool.true_and, Bool.or_false, Bool.false_eq_true, if_false, Zia, Zmb]
    simp only [runW, this]; rw [Zbdh l q (m ++ [x]) rest fun z hz => hl z (List.mem_cons_of_mem _ hz)]; simp
theorem Zcas {s : Seg} (h0 : s.2 ≠ []) (hz : ∀ x ∈ s.2, x ≠ 0) (q : List Seg) (rest : List (List UInt8)) : runW (Zdh s ++ rest) (q, false) = runW rest (addS q s, false) := by
  obtain ⟨b, l⟩ := s; simp only at h0 hz; cases l with
  | nil => exact absurd rfl h0
  | cons x l =>
    have hx := hz x (by simp)
    have hl : ∀ y ∈ l, y ≠ 0 := fun y hy => hz y (List.mem_cons_of_mem _ hy); obtain ⟨h5, h6⟩ := Zzd hx; cases b with
    | true =>
      unfold Zdh addS; rw [if_pos rfl, if_pos rfl]; cases l with
      | nil =>
        show runW (([123] ++ (dec x ++ [125])) :: rest) (q, false) = _; obtain ⟨h1, h2⟩ := Zbkh (dec x ++ [125]); obtain ⟨h3, h4⟩ := Zbns (dec x); have : stepW (q, false) ([123] ++ (dec x ++ [125])) = some (q ++ [(true, [x])], false) := by
          unfold stepW; simp only [h1, h2, h3, h4]; have hb : badW false true true (sysN (dec x)) = false := by
            have : (sysN (dec x) == 0) = false := by simpa using h6
            simp [badW, this]
          rw [hb, if_neg (by decide), h5]
          have ho : Zbq q false true = q ++ [(true, [])] := by simp [Zbq, newW]
          rw [ho, Zia, Zmb]; rfl
        simp only [runW, this]
      | cons y l =>
        show runW (([123] ++ dec x) :: (Zcu ((y :: l).map dec) ++ rest)) (q, false) = _; obtain ⟨h1, h2⟩ := Zbkh (dec x); obtain ⟨h3, h4⟩ := Zbjm x; have : stepW (q, false) ([123] ++ dec x) = some (q ++ [(true, [x])], true) := by
          unfold stepW; simp only [h1, h2, h3, h4]; have hb : badW false true false (sysN (dec x)) = false := by
            have : (sysN (dec x) == 0) = false := by simpa using h6
            simp [badW, this]
          rw [hb, if_neg (by decide), h5]
          have ho : Zbq q false true = q ++ [(true, [])] := by simp [Zbq, newW]
          rw [ho, Zia, Zmb]; rfl
        simp only [runW, this]; rw [run_in l y q [x] rest (hl y (by simp)) fun z hz => hl z (List.mem_cons_of_mem _ hz)]
        rfl
    | false =>
      unfold Zdh addS; rw [if_neg (show ¬ ((false : Bool) = true) by decide), if_neg (show ¬ ((false : Bool) = true) by decide)]
      show runW (dec x :: (l.map dec ++ rest)) (q, false) = _; have push : (∀ m, q.getLast? ≠ some (false, m)) -> runW (dec x :: (l.map dec ++ rest)) (q, false) = runW rest (q ++ [(false, x :: l)], false) := fun hq => by
        have ho : Zbq q false false = q ++ [(false, [])] := by
          unfold Zbq newW; cases hg : q.getLast? with
          | none => simp
          | some t =>
            obtain ⟨t1, t2⟩ := t; cases t1 with
            | true => simp
            | false => exact absurd hg (hq t2)
        have : stepW (q, false) (dec x) = some (q ++ [(false, [x])], false) := by rw [Zbdq hx, ho, Zia, Zmb]; rfl
        simp only [runW, this]; rw [Zbdh l q [x] rest hl]; rfl
      rcases List.eq_nil_or_concat q with rfl | ⟨q', t, rfl⟩; exact push fun m h => by simp at h
      . rw [List.concat_eq_append] at *; have hg : (q' ++ [t]).getLast? = some t := List.getLast?_concat; obtain ⟨t1, t2⟩ := t; cases t1 with
        | true => rw [hg]; exact push fun m h => by rw [hg] at h; simp at h
        | false =>
          rw [hg]; simp only [List.dropLast_concat]; exact Zbdh (x :: l) q' t2 rest hz
theorem Zbuy : ∀ (p q : List Seg), (∀ s ∈ p, s.2 ≠ [] ∧ ∀ x ∈ s.2, x ≠ 0) -> runW (p.flatMap Zdh) (q, false) = some (p.foldl addS q, false)
  | [], q, _ => rfl
  | s :: p, q, h => by
    rw [List.flatMap_cons, Zcas (h s (by simp)).1 (h s (by simp)).2, Zbuy p _ fun t ht => h t (List.mem_cons_of_mem _ ht)]
    rfl
theorem Zcok (q : List Seg) (s : Seg) : cnt (addS q s) = cnt q + s.2.length := by
  unfold addS; split; rw [Zds]
  . rcases List.eq_nil_or_concat q with rfl | ⟨q', t, rfl⟩; simp [cnt]
    . rw [List.concat_eq_append, List.getLast?_concat]; obtain ⟨t1, t2⟩ := t; cases t1 with
      | true => simp only; rw [Zds]
      | false => simp only [List.dropLast_concat]; rw [Zds, Zds, List.length_append]; simp only; omega
theorem Zbms : ∀ (p q : List Seg), cnt (p.foldl addS q) = cnt q + cnt p
  | [], q => by simp [cnt]
  | s :: p, q => by
    have e : cnt (s :: p) = s.2.length + cnt p := by simp [cnt]
    rw [List.foldl_cons, Zbms p, Zcok, e]; omega
theorem Zcbh {q : List Seg} {s : Seg} (hq : ∀ t ∈ q, 0 < t.2.length ∧ t.2.all (fun x => x != 0) = true) (hs : 0 < s.2.length ∧ s.2.all (fun x => x != 0) = true) : ∀ t ∈ addS q s, 0 < t.2.length ∧ t.2.all (fun x => x != 0) = true := by
  have push : ∀ t ∈ q ++ [s], 0 < t.2.length ∧ t.2.all (fun x => x != 0) = true := fun t ht => by rcases List.mem_append.1 ht with ht | ht; exact hq t ht; rw [List.mem_singleton] at ht; subst ht; exact hs
  unfold addS; split; exact push
  . rcases List.eq_nil_or_concat q with rfl | ⟨q', t, rfl⟩; exact push
    . rw [List.concat_eq_append] at *; rw [List.getLast?_concat]; obtain ⟨t1, t2⟩ := t; cases t1 with
      | true => exact push
      | false =>
        simp only [List.dropLast_concat]; intro u hu; rcases List.mem_append.1 hu with hu | hu; exact hq u (by simp [hu])
        . rw [List.mem_singleton] at hu; subst hu; have := hq (false, t2) (by simp)
          simp only at this; refine ⟨by simp only [List.length_append]; omega, ?_⟩
          rw [List.all_append, this.2, hs.2]; rfl
theorem Zbzf : ∀ (p q : List Seg), (∀ t ∈ q, 0 < t.2.length ∧ t.2.all (fun x => x != 0) = true) -> (∀ t ∈ p, 0 < t.2.length ∧ t.2.all (fun x => x != 0) = true) -> ∀ t ∈ p.foldl addS q, 0 < t.2.length ∧ t.2.all (fun x => x != 0) = true
  | [], q, hq, _ => hq
  | s :: p, q, hq, hp => Zbzf p _ (Zcbh hq (hp s (by simp))) fun t ht => hp t (List.mem_cons_of_mem _ ht)
theorem Zbjk {p : List Seg} (h : Zo p = true) : Zo (Zhs p) = true := by
  obtain ⟨o1, o2, o3⟩ := Zii h; have h1 : p.all Zbu = true := by simp only [Zo, Bool.and_eq_true] at h; exact h.1
  have hp : ∀ t ∈ p, 0 < t.2.length ∧ t.2.all (fun x => x != 0) = true := fun t ht => by have h3 := List.all_eq_true.1 h1 t ht; simp only [Zbu, Bool.and_eq_true, decide_eq_true_eq] at h3; exact ⟨h3.1.1, h3.2⟩
  have hn := Zbzf p [] (by simp) hp
  have hc : cnt (Zhs p) = cnt p := by unfold Zhs; rw [Zbms]; simp [cnt]
  have hall : (Zhs p).all Zbu = true := List.all_eq_true.2 fun t ht => by obtain ⟨a1, a2⟩ := hn t ht; have := Zew ht; simp only [Zbu, Bool.and_eq_true, decide_eq_true_eq]; exact ⟨⟨a1, by omega⟩, a2⟩
  unfold Zo; rw [hall, hc, decide_eq_true o2]; rfl
theorem Zcce {p : List Seg} (h : Zo p = true) : Zct (Zdj p) = some (Zhs p) := by
  have h1 : p.all Zbu = true := by simp only [Zo, Bool.and_eq_true] at h; exact h.1
  have hp : ∀ t ∈ p, t.2 ≠ [] ∧ ∀ x ∈ t.2, x ≠ 0 := fun t ht => by
    have h3 := List.all_eq_true.1 h1 t ht; simp only [Zbu, Bool.and_eq_true, decide_eq_true_eq] at h3; refine ⟨fun e => by rw [e] at h3; simp at h3, fun x hx e => ?_⟩
    have := List.all_eq_true.1 h3.2 x hx; rw [e] at this; simp at this
  cases p with
  | nil => rfl
  | cons s p =>
    have hw := Zbqo (p := s :: p) fun t ht => (hp t ht).1; have hne : (s :: p).flatMap Zdh ≠ [] := by rw [List.flatMap_cons]; intro he; exact Zbdf (hp s (by simp)).1 (List.append_eq_nil_iff.1 he).1
    have hs : spl 32 (Zdj (s :: p)) = (s :: p).flatMap Zdh := by rw [hw]; refine Zbnu 32 hne fun x hx => ?_; obtain ⟨t, _, ht⟩ := List.mem_flatMap.1 hx; exact Zcnt t x ht
    have hn : Zdj (s :: p) ≠ [] := fun e => by
      have hh : spl 32 ([] : List UInt8) = [[]] := rfl; rw [e, hh] at hs; have hd : ∀ x ∈ (s :: p).flatMap Zdh, x ≠ [] := fun x hx => by
        obtain ⟨t, ht1, ht⟩ := List.mem_flatMap.1 hx; unfold Zdh at ht; have hL : ∀ (xs : List (List UInt8)), (∀ x ∈ xs, x ≠ []) -> ∀ x ∈ Zcu xs, x ≠ [] := by
          intro xs; induction xs with
          | nil => intro _ x hx; simp [Zcu] at hx
          | cons y r ih =>
            intro hy x hx; cases r with
            | nil => simp only [Zcu, List.mem_singleton] at hx; subst hx; simp
            | cons z r =>
              simp only [Zcu] at hx; rcases List.mem_cons.1 hx with rfl | hx; exact hy _ (by simp)
              exact ih (fun t ht => hy t (List.mem_cons_of_mem _ ht)) x hx
        have h0 : ∀ x ∈ t.2.map dec, x ≠ [] := fun x hx => by obtain ⟨y, _, rfl⟩ := List.mem_map.1 hx; exact Zls _
        split at ht
        . have hL := hL _ h0; cases hw2 : Zcu (t.2.map dec) with
          | nil => rw [hw2] at ht; simp at ht
          | cons y r =>
            rw [hw2] at ht hL; rcases List.mem_cons.1 ht with rfl | ht; simp; exact hL x (List.mem_cons_of_mem _ ht)
        exact h0 x ht
      rw [← hs] at hd; exact hd [] (by simp) rfl
    unfold Zct; rw [if_neg hn, hs, Zbuy _ [] hp]; show (if Zo (Zhs (s :: p)) = true then some (Zhs (s :: p)) else none) = _
    rw [if_pos (Zbjk h)]
def Zev : List Seg -> Bool
  | s :: t :: r => (!s.1 && !t.1) || Zev (t :: r)
  | _ => false
theorem Zbmw : ∀ (p q : List Seg) (t : Seg), Zev (t :: p) = false -> p.foldl addS (q ++ [t]) = q ++ t :: p
  | [], q, t, _ => rfl
  | s :: p, q, t, h => by
    simp only [Zev, Bool.or_eq_false_iff] at h; have e : addS (q ++ [t]) s = (q ++ [t]) ++ [s] := by
      unfold addS; split; rfl
      . rw [List.getLast?_concat]; obtain ⟨t1, t2⟩ := t; cases t1 with
        | true => rfl
        | false =>
          rename_i hs; have h1 := h.1; simp only [Bool.not_false, Bool.true_and, Bool.not_eq_false'] at h1; exact absurd h1 hs
    rw [List.foldl_cons, e, Zbmw p (q ++ [t]) s h.2]; simp
theorem Zctn {p : List Seg} (h : Zev p = false) : Zhs p = p := by
  cases p with
  | nil => rfl
  | cons s p =>
    unfold Zhs; have e : addS [] s = [] ++ [s] := by unfold addS; split <;> rfl
    rw [List.foldl_cons, e, Zbmw p [] s h]; rfl
theorem Zboo : ∀ (p : List Seg) (s t : Seg), Zev (p ++ [s, t]) = (Zev (p ++ [s]) || (!s.1 && !t.1))
  | [], s, t => by simp [Zev]
  | [x], s, t => by simp [Zev]
  | x :: y :: r, s, t => by have ih := Zboo (y :: r) s t; simp only [List.cons_append, Zev] at ih ⊢; rw [ih, Bool.or_assoc]
theorem Zbvi (c : UInt8) : ∀ xs : List (List UInt8), (Lib.join xs [c]).length <= (xs.map List.length).sum + xs.length
  | [] => by rw [join_nil]; simp
  | [x] => by rw [join_one]; simp
  | x :: y :: r => by have ih := Zbvi c (y :: r); rw [Zfd, List.length_append, List.length_cons, List.map_cons, List.sum_cons, List.length_cons]; omega
theorem Zbsj : ∀ p : List Seg, ((p.map segT).map List.length).sum <= cnt p * 11 + p.length * 2
  | [] => by simp [cnt]
  | s :: p => by
    have ih := Zbsj p; have h := Zbmi s; have e : cnt (s :: p) = s.2.length + cnt p := by simp [cnt]
    rw [List.map_cons, List.map_cons, List.sum_cons, e, List.length_cons, Nat.add_mul]; omega
theorem Zcqh (p : List Seg) : (Zdj p).length <= cnt p * 11 + p.length * 3 := by have h1 := Zbvi 32 (p.map segT); have h2 := Zbsj p; rw [List.length_map] at h1; unfold Zdj; omega
theorem Zcix (b : List UInt8) (four : Bool) (K : Bool -> Prop) (hK : K true) : Zyt b four K := by
  unfold Zyt; have e3 : (min (b.length : Int) 400).toNat = min b.length 400 := by omega
  have hb : (b.take (min b.length 400)).length <= 400 := by rw [List.length_take]; omega
  rw [e3]; generalize b.take (min b.length 400) = t at *; refine fun _ => Zbfp t four _ (by omega) ?_
  unfold rpK; cases hr : Zfy four t with
  | none => exact fun _ _ => Zym [] four _ (by simp) (by simp [cnt]) fun _ => ifT rfl hK
  | some p =>
    have hb := Zbcn hr; refine fun _ _ => Zym p four _ (by omega) (by omega) fun _ => ifF rfl ?_
    rw [Zbwd hr, if_pos rfl, Zcgu hr]; refine ifT rfl fun _ => ?_; dsimp only [Zsz]; exact fun _ => of_eq hK (beq_self_eq_true _).symm
theorem Zcjt (p : List Seg) (b : List UInt8) (four : Bool) (K : Bool -> Prop) (hK : K true) : Zbhf p b four K := by
  unfold Zbhf; obtain ⟨h1, h2⟩ := Zkt p; have j2 := Zcix b four K hK; refine fun _ => Zpi _ fun _ => ifF rfl ⟨by omega, by omega, fun _ => Zft p _ fun _ _ => Zom _ _ (by omega) (by omega) fun _ => ?_⟩
  generalize fewP p = a at *; cases hok : Zo a with
  | false => exact ifF rfl j2
  | true =>
  obtain ⟨o1, o2, o3⟩ := Zii hok; have hn := Zbjk hok; obtain ⟨n1, n2, n3⟩ := Zii hn; have hpl := Zbex true a; refine ifT rfl fun _ => Zym a true _ (by omega) (by omega) ?_
  rw [hok, if_pos rfl]; have hrb : Zfy true (Zcd true a) = some a := by rw [Zcfk true hok, Zcrg]
  refine fun _ _ => Zbfp _ true _ (by omega) ?_
  unfold rpK; rw [hrb]; refine fun _ _ => Zbhz a _ (by omega) (by omega) ?_
  have htx : txR a = (Zdj a, 0) := by unfold txR; rw [if_pos hok]
  rw [htx]; have htl := Zcqh a; refine fun _ _ => ⟨by show (Zdj a).length <= 1000; omega, Zbnn (Zcce hok) fun _ => ?_⟩
  refine ⟨fun k x => ∃ i : Nat, 1 <= i ∧ x = (Zev (a.take i), (i : Int), ()) ∧ k = a.length - i ∧ (i <= a.length ∨ (i = 1 ∧ a = [])), a.length - 1, ⟨1, Nat.le_refl _, ?_, rfl, ?_⟩, ?_⟩
  . cases a with
    | nil => rfl
    | cons s r => rfl
  . cases a with
    | nil => exact .inr ⟨rfl, rfl⟩
    | cons s r => exact .inl (by simp)
  rintro k x ⟨i, hi1, rfl, rfl, hi2⟩; intro _; dsimp only [Zblw]; have hw1 : IntKind.wrap .i64 ((i : Int) - 1) = ((i - 1 : Nat) : Int) := by rw [Zg (by omega) (by omega)]; omega
  have hw2 : IntKind.wrap .i64 ((i : Int) + 1) = ((i + 1 : Nat) : Int) := by rw [Zg (by omega) (by omega)]; omega
  by_cases hlt : i < a.length
  case neg =>
    refine ifF (decide_eq_false (by omega)) (ifF rfl (ifF rfl fun _ => Znq a _ (by omega) (by omega) fun _ => ifF rfl ?_))
    have ht : a.take i = a := List.take_of_length_le (by omega)
    rw [ht]; refine IfB.intro (fun hb => fun _ => ?_) fun _ => by unfold Zkr; exact ifF rfl j2
    have hb : Zev a = false := by simpa using hb
    rw [Zctn hb]; refine Znq a _ (by omega) (by omega) fun _ => ?_
    unfold Zkr; exact ifF rfl j2
  refine ifT (decide_eq_true (by omega)) ?_
  have hat : a[((i : Nat) : Int).toNat]? = some a[i] := by rw [Int.toNat_natCast]; exact List.getElem?_eq_getElem hlt
  have hat1 : a[((i - 1 : Nat) : Int).toNat]? = some a[i - 1] := by rw [Int.toNat_natCast]; exact List.getElem?_eq_getElem (by omega)
  have hbs : Zev (a.take (i + 1)) = (Zev (a.take i) || (!a[i - 1].1 && !a[i].1)) := by
    have e2 : a.take i = a.take (i - 1) ++ [a[i - 1]] := by
      have : i = i - 1 + 1 := by omega
      conv => lhs; rw [this]
      rw [List.take_add_one, List.getElem?_eq_getElem (by omega)]; rfl
    have e1 : a.take (i + 1) = a.take (i - 1) ++ [a[i - 1], a[i]] := by
      have e3 : a.take (i + 1) = a.take i ++ [a[i]] := by rw [List.take_add_one, List.getElem?_eq_getElem hlt]; rfl
      rw [e3, e2, List.append_assoc]; rfl
    rw [e1, Zboo, ← e2]
  have next : ∀ t, t = Zev (a.take (i + 1)) -> Zsj a b four a 0 (Zhs a) 0 (i : Int) (fun x' => ∃ k', k' < a.length - i ∧ ∃ i : Nat, 1 <= i ∧ x' = (Zev (a.take i), (i : Int), ()) ∧ k' = a.length - i ∧ (i <= a.length ∨ (i = 1 ∧ a = []))) t K := fun t ht => by unfold Zsj; rw [hw2, ht]; exact ⟨a.length - (i + 1), by omega, i + 1, by omega, rfl, rfl, .inl (by omega)⟩
  refine IfB.intro (fun hb => next true (by rw [hbs, hb]; rfl)) fun hb => ?_
  rw [hw1]; refine ⟨by omega, AtN.of hat1 fun _ => IfB.intro (fun hs => ⟨by omega, AtN.of hat fun _ => next _ ?_⟩) fun hs => next false ?_⟩
  rw [hbs, hb, hs]; simp; rw [hbs, hb, hs]; rfl
end Go.Proofs.YtflfamhboalgiaaDoor
