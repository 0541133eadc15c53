/-
  Paths' texts, and what is prepended: what the program's functions and the document's find.
-/
import Derived.Test.YtflfamhboalgiaaDoorSG
import Derived.Test.YtflfamhboalgiaaDoorQ
set_option linter.all false
section
set_option maxRecDepth 10000
namespace Go.Proofs.YtflfamhboalgiaaDoor
open Go.Sh
def fewP (p : List Seg) : List Seg := (p.take 20).map fun s => (s.1, s.2.take 260)
theorem Zys (p : List Seg) : (fewP p).length <= 20 ∧ ∀ s ∈ fewP p, s.2.length <= 260 := by
  refine ⟨by simp only [fewP, List.length_map, List.length_take]; omega, fun s hs => ?_⟩
  obtain ⟨t, _, rfl⟩ := List.mem_map.1 hs; simp only [List.length_take]; omega
theorem Zbts : ∀ (p : List Seg) (k : Nat), (∀ s ∈ p, s.2.length <= k) -> cnt p <= p.length * k
  | [], k, _ => by simp [cnt]
  | s :: p, k, h => by
    have := Zbts p k fun t ht => h t (List.mem_cons_of_mem _ ht); have h1 := h s List.mem_cons_self; have e : cnt (s :: p) = s.2.length + cnt p := by simp [cnt]
    rw [e, List.length_cons, Nat.succ_mul]; omega
theorem Zkt (p : List Seg) : cnt (fewP p) <= 5200 ∧ (fewP p).length + cnt (fewP p) <= 5220 := by obtain ⟨h1, h2⟩ := Zys p; have := Zbts _ 260 h2; have : (fewP p).length * 260 <= 20 * 260 := Nat.mul_le_mul_right _ h1; omega
theorem Zrp (p : List Seg) : fewP (fewP p) = fewP p := by
  obtain ⟨h1, h2⟩ := Zys p; have e : fewP (fewP p) = ((fewP p).take 20).map fun s => (s.1, s.2.take 260) := rfl; rw [e, List.take_of_length_le h1]
  conv => rhs; rw [← List.map_id (fewP p)]
  exact List.map_congr_left fun s hs => by rw [List.take_of_length_le (h2 s hs)]; rfl
theorem Zft (p : List Seg) (K : List Seg -> Prop) (h : K (fewP p)) : Zeh p K := by
  unfold Zeh; refine ⟨fun k x => ∃ i : Nat, x = (fewP (p.take i), (i : Int), ()) ∧ k = 20 - i ∧ i <= p.length ∧ i <= 20, 20, ⟨0, rfl, rfl, Nat.zero_le _, Nat.zero_le _⟩, ?_⟩; rintro k x ⟨i, rfl, rfl, hi, hi2⟩; intro _; dsimp only [Zbsc]; have fin : (i = p.length ∨ i = 20) -> Zqb p (fewP (p.take i)) (i : Int) (fun x' => ∃ k', k' < 20 - i ∧ ∃ i : Nat, x' = (fewP (p.take i), (i : Int), ()) ∧ k' = 20 - i ∧ i <= p.length ∧ i <= 20) false K := fun he => by unfold Zqb; refine ifF rfl (of_eq h ?_); unfold fewP; congr 1; rcases he with rfl | rfl; rw [List.take_length]; rw [List.take_take, Nat.min_self]
  by_cases h1 : i < p.length
  case neg => exact ifF (decide_eq_false (by omega)) (fin (by omega))
  refine ifT (decide_eq_true (by omega)) ?_
  by_cases h2 : i < 20
  case neg =>
    rw [decide_eq_false (by omega)]
    exact fin (by omega)
  rw [decide_eq_true (by omega)]
  unfold Zqb; have hat : p[((i : Nat) : Int).toNat]? = some p[i] := by rw [Int.toNat_natCast]; exact List.getElem?_eq_getElem h1
  have hfl := (Zys (p.take i)).1; refine ifT rfl ⟨by omega, AtN.of hat fun _ => ⟨by omega, AtN.of hat fun _ => ⟨by omega, AtN.of hat fun _ => ⟨by omega, by omega, ?_, ?_, 20 - (i + 1), by omega, i + 1, ?_, rfl, by omega, by omega⟩⟩⟩⟩
  simp only [List.length_nil, List.length_take]; omega; simp only [List.length_singleton]; omega
  . have e1 : IntKind.wrap .i64 ((i : Int) + 1) = ((i + 1 : Nat) : Int) := by rw [Zg (by omega) (by omega)]; omega
    have e2 : fewP (p.take (i + 1)) = fewP (p.take i) ++ [(p[i].1, p[i].2.take 260)] := by
      have a1 : p.take (i + 1) = p.take i ++ [p[i]] := by rw [List.take_add_one, List.getElem?_eq_getElem h1]; rfl
      unfold fewP; rw [a1, List.take_of_length_le (by simp only [List.length_append, List.length_take, List.length_singleton]; omega), List.take_of_length_le (l := p.take i) (i := 20) (by simp only [List.length_take]; omega), List.map_append]
      rfl
    have e3 : (min (p[i].2.length : Int) 260).toNat = min p[i].2.length 260 := by omega
    have e4 : p[i].2.take (min p[i].2.length 260) = p[i].2.take 260 := by rw [Nat.min_comm, Zboy]
    rw [e1, e2, e3, e4, List.nil_append]
def dec (x : UInt32) : List UInt8 := Lib.decDigits x.toNat
def Zea (l : List UInt32) : List UInt8 := Lib.join (l.map dec) [32]
def segT (s : Seg) : List UInt8 := if s.1 then [123] ++ Zea s.2 ++ [125] else Zea s.2
def Zdj (p : List Seg) : List UInt8 := Lib.join (p.map segT) [32]
theorem Zfd (c : UInt8) (x y : List UInt8) (r : List (List UInt8)) : Lib.join (x :: y :: r) [c] = x ++ c :: Lib.join (y :: r) [c] := by simp [Lib.join, List.intercalate, List.intersperse]
theorem join_one (c : UInt8) (x : List UInt8) : Lib.join [x] [c] = x := by simp [Lib.join, List.intercalate, List.intersperse]
theorem join_nil (c : UInt8) : Lib.join [] [c] = [] := rfl
theorem Zbcm (c : UInt8) (x : List UInt8) : ∀ {xs : List (List UInt8)}, xs ≠ [] -> Lib.join (xs ++ [x]) [c] = Lib.join xs [c] ++ c :: x
  | [], h => absurd rfl h
  | [y], _ => by rw [List.cons_append, List.nil_append, Zfd, join_one, join_one]
  | y :: z :: r, _ => by
    have ih := Zbcm c x (xs := z :: r) (by simp)
    rw [List.cons_append, List.cons_append, Zfd, ← List.cons_append, ih, Zfd]; simp
theorem Zbas (c : UInt8) (k : Nat) : ∀ xs : List (List UInt8), (∀ x ∈ xs, x.length <= k) -> (Lib.join xs [c]).length <= xs.length * (k + 1)
  | [], _ => by rw [join_nil]; simp
  | [x], h => by
    have := h x (by simp)
    rw [join_one]; simp; omega
  | x :: y :: r, h => by
    have ih := Zbas c k (y :: r) fun z hz => h z (List.mem_cons_of_mem _ hz); have := h x (by simp)
    rw [Zfd, List.length_append, List.length_cons, List.length_cons, Nat.succ_mul]; omega
theorem Zbkz (x : UInt32) : (dec x).length <= 10 := Zbqy (k := 9) (by have := UInt32.toNat_lt x; omega)
theorem Zuo (l : List UInt32) : (Zea l).length <= l.length * 11 := by
  have := Zbas 32 10 (l.map dec) fun x hx => by obtain ⟨y, _, rfl⟩ := List.mem_map.1 hx; exact Zbkz y
  rw [List.length_map] at this; exact this
theorem Zbmi (s : Seg) : (segT s).length <= s.2.length * 11 + 2 := by have := Zuo s.2; unfold segT; split; simp only [List.length_append, List.length_singleton]; omega; omega
theorem Zbml (p : List Seg) (k : Nat) (h : ∀ s ∈ p, s.2.length <= k) : (Zdj p).length <= p.length * (k * 11 + 3) := by
  have := Zbas 32 (k * 11 + 2) (p.map segT) fun x hx => by obtain ⟨s, hs, rfl⟩ := List.mem_map.1 hx; have := Zbmi s; have := h s hs; have : s.2.length * 11 <= k * 11 := Nat.mul_le_mul_right _ (h s hs); omega
  rw [List.length_map] at this; exact this
theorem Zii {p : List Seg} (h : Zo p = true) : p.length <= 64 ∧ cnt p <= 64 ∧ ∀ s ∈ p, 0 < s.2.length ∧ s.2.length <= 64 := by
  have h2 : cnt p <= 64 := by simp only [Zo, Bool.and_eq_true, decide_eq_true_eq] at h; exact h.2
  have h1 : p.all Zbu = true := by simp only [Zo, Bool.and_eq_true] at h; exact h.1
  have := Zvd p h1; refine ⟨by omega, h2, fun s hs => ?_⟩
  have h3 := List.all_eq_true.1 h1 s hs; simp only [Zbu, Bool.and_eq_true, decide_eq_true_eq] at h3; have := Zew hs; omega
def txR (p : List Seg) : List UInt8 × Int := if Zo p then (Zdj p, 0) else ([], 2)
theorem Zbhz (p : List Seg) (K : List UInt8 -> Int -> Prop) (hl : p.length <= 1000000) (hc : cnt p <= 1000000) (h : K (txR p).1 (txR p).2) : Zme p K := by
  unfold Zme; refine fun _ => Zom p _ (by omega) (by omega) fun _ => ?_
  unfold txR at h; cases hok : Zo p with
  | false => rw [hok] at h; exact ifT rfl h
  | true =>
  rw [hok, if_pos rfl] at h; obtain ⟨o1, o2, o3⟩ := Zii hok; refine ifF rfl ?_; refine Zj.over p (fun pre => (pre.map segT, (pre.length : Int), ())) (fun _ => True) rfl trivial (fun pre s post hp hn _ next hx => ?_) (fun _ next _ => ?_)
  . intro _; dsimp only [Zbdk]; have hs := o3 s (by rw [hp]; simp)
    refine ifT (decide_eq_true (by omega)) ⟨by omega, AtN.of (Zbf hp) fun _ => ?_⟩
    refine Zj.over s.2 (fun l => (l.map dec, (l.length : Int), ())) (fun _ => True) rfl trivial (fun l x r hp2 hn2 _ next2 hx2 => ?_) (fun _ next2 _ => ?_)
    . intro _; dsimp only [Zbgp]; have hx := UInt32.toNat_lt x; have w : IntKind.wrap .u64 (x.toNat : Int) = (x.toNat : Int) := by rw [Zoq]; omega
      refine ifT (decide_eq_true (by omega)) ⟨by omega, AtN.of (Zbf hp2) fun _ _ => ⟨rfl, fun _ => ⟨?_, of_eq (hx2 trivial) ?_⟩⟩⟩
      . simp only [List.length_map, List.length_singleton]; have : s.2.length = l.length + (r.length + 1) := by rw [hp2]; simp
        omega
      . rw [w, Int.toNat_natCast, Zg (by omega) (by omega)]
        simp [dec]
    . dsimp only [Zbgp]; have hnl := Zuo s.2; have : s.2.length * 11 <= 64 * 11 := Nat.mul_le_mul_right _ hs.2; refine ifF (decide_eq_false (by omega)) fun _ => ⟨by rw [List.length_map]; omega, by show (Zea s.2).length <= _; omega, fun _ => ?_⟩
      show IfB s.1 (([123] : List UInt8).length + (Zea s.2).length <= Zi ∧ ([123] ++ Zea s.2).length + ([125] : List UInt8).length <= Zi ∧ Zmm (pre.map segT) p (pre.length : Int) next (([123] ++ Zea s.2) ++ [125]) K) (Zmm (pre.map segT) p (pre.length : Int) next (Zea s.2) K)
      have j0 : Zmm (pre.map segT) p (pre.length : Int) next (segT s) K := by
        unfold Zmm; have : p.length = pre.length + (post.length + 1) := by rw [hp]; simp
        refine ⟨by simp only [List.length_map, List.length_singleton]; omega, of_eq (hx trivial) ?_⟩
        rw [Zg (by omega) (by omega)]
        simp
      refine IfB.intro (fun h1 => ?_) fun h1 => ?_
      . refine ⟨by simp only [List.length_singleton]; unfold Zi; omega, by simp only [List.length_append, List.length_singleton]; unfold Zi; omega, ?_⟩
        have e : segT s = ([123] ++ Zea s.2) ++ [125] := by unfold segT; rw [if_pos h1]
        rw [← e]; exact j0
      . have e : segT s = Zea s.2 := by unfold segT; rw [if_neg (by rw [h1]; decide)]
        rw [← e]; exact j0
  dsimp only [Zbdk]; have htl := Zbml p 64 fun s hs => (o3 s hs).2; have : p.length * (64 * 11 + 3) <= 64 * (64 * 11 + 3) := Nat.mul_le_mul_right _ o1; refine ifF (decide_eq_false (by omega)) fun _ => ⟨by rw [List.length_map]; omega, by show (Zdj p).length <= _; omega, fun _ => h⟩
theorem Zcfr (p : List Seg) (K : List UInt8 -> Int -> Prop) (hl : p.length <= 1000000) (hc : cnt p <= 1000000) (h : K (txR p).1 (txR p).2) : Zxj p K := by
  unfold Zxj; refine fun _ => Zny p _ (by omega) (by omega) fun _ => ?_
  unfold txR at h; cases hok : Zo p with
  | false => rw [hok] at h; exact ifT rfl h
  | true =>
  rw [hok, if_pos rfl] at h; obtain ⟨o1, o2, o3⟩ := Zii hok; refine ifF rfl ?_; refine Zj.over p (fun pre => (Zdj pre, (pre.length : Int), ())) (fun _ => True) rfl trivial (fun pre s post hp hn _ next hx => ?_) (fun _ next _ => ?_)
  . intro _; dsimp only [Zbac]; have hs := o3 s (by rw [hp]; simp)
    have hpl : p.length = pre.length + (post.length + 1) := by rw [hp]; simp
    have hpre := Zbml pre 64 fun t ht => (o3 t (by rw [hp]; simp [ht])).2
    have hpm : pre.length * (64 * 11 + 3) <= 64 * (64 * 11 + 3) := Nat.mul_le_mul_right _ (by omega)
    have j0 : ∀ base : List UInt8, base ++ segT s = Zdj (pre ++ [s]) -> base.length <= 100000 -> Zuh p (pre.length : Int) next base K := fun base hb hbl => by
      unfold Zuh; refine ⟨by omega, AtN.of (Zbf hp) fun _ => ?_⟩
      have j1 : ∀ b2 : List UInt8, b2.length <= 200000 -> (∀ e, e = b2 ++ Zea s.2 -> (if s.1 then e ++ [125] else e) = Zdj (pre ++ [s])) -> Ztv p (pre.length : Int) next b2 K := fun b2 hb2 he => by
        unfold Ztv; refine Zj.over s.2 (fun l => (b2 ++ Zea l, (l.length : Int), ())) (fun _ => True) (by rw [show Zea [] = [] from rfl, List.append_nil]; rfl) trivial (fun l x r hp2 hn2 _ next2 hx2 => ?_) (fun _ next2 _ => ?_)
        . intro _; dsimp only [Zbec]; have hx := UInt32.toNat_lt x; have hl2 : s.2.length = l.length + (r.length + 1) := by rw [hp2]; simp
          have hnl := Zuo l; have hnm : l.length * 11 <= 64 * 11 := Nat.mul_le_mul_right _ (by omega)
          have hd := Zbkz x; have j2 : ∀ t, t ++ dec x = b2 ++ Zea (l ++ [x]) -> t.length <= 300000 -> Zxu p (pre.length : Int) (l.length : Int) next next2 t K := fun t ht htl => by
            unfold Zxu; refine ⟨by omega, AtN.of (Zbf hp) fun _ => ⟨by omega, AtN.of (Zbf hp2) fun _ _ => ?_⟩⟩
            rw [Zg (n := (x.toNat : Int)) (by omega) (by omega)]
            refine Zcqd x.toNat _ (by omega) fun _ => ⟨?_, of_eq (hx2 trivial) ?_⟩
            show t.length + (dec x).length <= _; unfold Zi; omega
            . show _ = (t ++ dec x, IntKind.wrap .i64 ((l.length : Int) + 1), ()); rw [ht, Zg (by omega) (by omega)]; simp
          refine ⟨by omega, AtN.of (Zbf hp) fun _ => ifT (decide_eq_true (by omega)) (IfB.intro (fun h1 => ?_) fun h1 => ?_)⟩
          . have h1 : l ≠ [] := fun e => by subst e; simp at h1
            refine ⟨by simp only [List.length_append, List.length_singleton]; unfold Zi; omega, j2 _ ?_ (by simp only [List.length_append, List.length_singleton]; omega)⟩
            unfold Zea; rw [List.map_append, List.map_cons, List.map_nil, Zbcm 32 (dec x) (by simpa using h1)]; simp
          . have h1 : l = [] := by have := of_decide_eq_false h1; exact List.eq_nil_of_length_eq_zero (by omega)
            subst h1; refine j2 _ ?_ (by simp only [List.length_append]; omega)
            show b2 ++ [] ++ dec x = b2 ++ Lib.join [dec x] [32]; rw [join_one, List.append_nil]
        . dsimp only [Zbec]; have hnl := Zuo s.2; have hnm : s.2.length * 11 <= 64 * 11 := Nat.mul_le_mul_right _ hs.2; have he := he _ rfl; refine ⟨by omega, AtN.of (Zbf hp) fun _ => ifF (decide_eq_false (by omega)) ⟨by omega, AtN.of (Zbf hp) fun _ => IfB.intro (fun h1 => ⟨?_, ?_⟩) fun h1 => ?_⟩⟩
          simp only [List.length_append, List.length_singleton]; unfold Zi; omega
          . rw [if_pos h1] at he; unfold Zvw; refine of_eq (hx trivial) ?_; rw [he, Zg (by omega) (by omega)]; simp
          . rw [if_neg (by rw [h1]; decide)] at he
            unfold Zvw; refine of_eq (hx trivial) ?_; rw [he, Zg (by omega) (by omega)]; simp
      refine IfB.intro (fun h1 => ⟨by simp only [List.length_singleton]; unfold Zi; omega, j1 _ (by simp only [List.length_append, List.length_singleton]; omega) fun e he => ?_⟩) fun h1 => j1 _ (by omega) fun e he => ?_
      rw [he, ← hb, if_pos h1]; unfold segT; rw [if_pos h1]; simp
      . rw [he, ← hb, if_neg (by rw [h1]; decide)]; unfold segT; rw [if_neg (by rw [h1]; decide)]
    refine ifT (decide_eq_true (by omega)) (IfB.intro (fun h1 => ?_) fun h1 => ?_)
    . have h1 : pre ≠ [] := fun e => by subst e; simp at h1
      refine ⟨by simp only [List.length_singleton]; unfold Zi; omega, j0 _ ?_ (by simp only [List.length_append, List.length_singleton]; omega)⟩
      unfold Zdj; rw [List.map_append, List.map_cons, List.map_nil, Zbcm 32 (segT s) (by simpa using h1)]; simp
    . have h1 : pre = [] := by have := of_decide_eq_false h1; exact List.eq_nil_of_length_eq_zero (by omega)
      subst h1; refine j0 _ ?_ (by omega)
      show [] ++ segT s = Lib.join [segT s] [32]; rw [join_one, List.nil_append]
  dsimp only [Zbac]; exact ifF (decide_eq_false (by omega)) h
theorem Zcet (p : List Seg) (u : UInt32) (n : Nat) : Zbm p u (n + 1) = Zbm (Zbm p u n) u 1 := by
  unfold Zbm; rw [if_neg (by omega)]
  by_cases h : n = 0; subst h; rw [if_pos rfl, if_neg (by decide)]
  rw [if_neg h, if_neg (by decide)]
  cases hh : Zei p with
  | none => simp only [Zei]; rw [Nat.add_comm, ← List.replicate_append_replicate]
  | some lr =>
    obtain ⟨l, r⟩ := lr; simp only [Zei]; rw [Nat.add_comm, ← List.replicate_append_replicate, List.append_assoc]
theorem Zbin (p : List Seg) (u : UInt32) (n : Nat) : cnt (Zbm p u n) = cnt p + n := by
  unfold Zbm; split; rename_i h; subst h; rfl
  . match p with
    | [] => simp [Zei, cnt]
    | (true, l) :: r => simp [Zei, cnt]; omega
    | (false, l) :: r => simp [Zei, cnt]; omega
theorem Zbgv (p : List Seg) (u : UInt32) (n : Nat) : (Zbm p u n).length <= p.length + 1 := by
  unfold Zbm; split; omega
  . match p with
    | [] => simp [Zei]
    | (true, l) :: r => simp [Zei]
    | (false, l) :: r => simp [Zei]
theorem Zcsx (p : List Seg) (u : UInt32) (n : Int) (K : List Seg -> Int -> Prop) (hl : p.length <= 10000) (hc : cnt p <= 1000000) (hn : -9223372036854775808 <= n ∧ n <= 9223372036854775807) (h : K (Zcb p u n).1 (Zcb p u n).2) : Zuq p (u.toNat : Int) n K := by
  unfold Zuq; refine fun _ => Zny p _ (by omega) (by omega) fun _ => ?_
  have bad : (Zo p = false ∨ u = 0 ∨ n < 0) -> Znh p (u.toNat : Int) n true K := fun hb => by unfold Znh; unfold Zcb at h; rw [if_pos hb] at h; exact ifT rfl h
  cases hok : Zo p with
  | false => exact ifT rfl (bad (.inl hok))
  | true =>
  obtain ⟨o1, o2, o3⟩ := Zii hok; refine ifF rfl (IfB.intro (fun h1 => bad (.inr (.inl ?_))) fun h1 => ?_)
  . have h1 : (u.toNat : Int) = 0 := by simpa using h1
    exact UInt32.toNat_inj.1 (by rw [show (0 : UInt32).toNat = 0 from rfl]; omega)
  have hu0 : u ≠ 0 := fun e => by subst e; simp at h1
  by_cases hn0 : n < 0; rw [decide_eq_true hn0]; exact bad (.inr (.inr hn0)); rw [decide_eq_false hn0]; have hspec : Zcb p u n = if n > 64 - (cnt p : Int) then ([], 3) else (Zbm p u n.toNat, 0) := by unfold Zcb; rw [if_neg]; rintro (h | h | h); rw [hok] at h; cases h; exact hu0 h; exact hn0 h
  rw [hspec] at h; unfold Znh; refine ifF rfl ?_; refine Zj.over p (fun pre => ((cnt pre : Int), (pre.length : Int), ())) (fun _ => True) rfl trivial (fun pre s post hp hnn _ next hx => ?_) (fun _ next _ => ?_)
  . intro _; dsimp only [Zbhn]; have hcs : cnt p = cnt pre + s.2.length + cnt post := by rw [hp, Zxq]
    refine ifT (decide_eq_true (by omega)) ⟨by omega, AtN.of (Zbf hp) fun _ => of_eq (hx trivial) ?_⟩
    rw [Zg (by omega) (by omega), Zg (by omega) (by omega), Zds]; simp
  . dsimp only [Zbhn]; refine ifF (decide_eq_false (by omega)) ?_
    rw [Zg (n := 64 - (cnt p : Int)) (by omega) (by omega)]
    by_cases hbig : n > 64 - (cnt p : Int); rw [if_pos hbig] at h; exact ifT (decide_eq_true hbig) h; rw [if_neg hbig] at h; obtain ⟨k, rfl⟩ : ∃ k : Nat, n = k := ⟨n.toNat, by omega⟩
    rw [Int.toNat_natCast] at h; refine ifF (decide_eq_false hbig) fun _ => Zcbt p _ (by omega) (fun s hs => by have := o3 s hs; omega) fun _ => ?_
    refine ⟨fun m x => ∃ i : Nat, x = (Zbm p u i, (i : Int), ()) ∧ m = k - i ∧ i <= k, k, ⟨0, by unfold Zbm; rw [if_pos rfl]; rfl, rfl, Nat.zero_le _⟩, ?_⟩
    rintro m x ⟨i, rfl, rfl, hi⟩; intro _; dsimp only [Zbtl]; by_cases hik : i < k
    case neg =>
      have : i = k := by omega
      subst this; exact ifF (decide_eq_false (by omega)) h
    have hcc := Zbin p u i; have hcl := Zbgv p u i; have hsucc := Zcet p u i; have hle : ∀ s ∈ Zbm p u i, s.2.length <= 128 := fun s hs => by have := Zew hs; omega
    generalize Zbm p u i = q at *; have hw : IntKind.wrap .i64 ((i : Int) + 1) = ((i + 1 : Nat) : Int) := by rw [Zg (by omega) (by omega)]; omega
    have hof : ofI .u32 (u.toNat : Int) = u := Zcdf u; have fin : ∀ l r, Zbm q u 1 = (false, [u] ++ l) :: r -> l.length <= 128 -> r.length <= 200 -> Zud (u.toNat : Int) (k : Int) (i : Int) (fun x' => ∃ k', k' < k - i ∧ ∃ i : Nat, x' = (Zbm p u i, (i : Int), ()) ∧ k' = k - i ∧ i <= k) ((false, l) :: r) K := fun l r he hl hr => by
      unfold Zud; refine ⟨by omega, by simp only [List.length_cons]; omega, AtN.of rfl fun _ => ⟨by simp only [List.length_singleton]; omega, by omega, by simp only [List.length_cons]; omega, AtN.of rfl fun _ => ⟨k - (i + 1), by omega, i + 1, ?_, rfl, by omega⟩⟩⟩
      rw [hw, hsucc, he, hof]; rfl
    refine ifT (decide_eq_true (by omega)) ?_
    rcases q with _ | ⟨⟨b, l⟩, r⟩; refine ifT rfl ?_; unfold Zuy; exact ifT rfl ⟨by simp only [List.length_cons, List.length_nil]; omega, fin [] [] rfl (by simp) (by simp)⟩
    . simp only [List.length_cons] at hcl; have hl128 : l.length <= 128 := hle (b, l) List.mem_cons_self; refine ifF (by simp only [List.length_cons]; exact beq_eq_false_iff_ne.2 (by omega)) ⟨by omega, by simp only [List.length_cons]; omega, AtN.of rfl fun _ => ?_⟩
      unfold Zuy; cases b; exact ifF rfl (fin l r rfl hl128 (by omega))
      refine ifT rfl ⟨by simp only [List.length_singleton, List.length_cons, List.length_nil]; omega, fin [] ((true, l) :: r) rfl (by simp) (by simp only [List.length_cons]; omega)⟩
def Zqv (p : List Seg) : Option UInt32 := match p with
  | (false, x :: _) :: _ => some x
  | _ => none
def Zep (p : List Seg) : Option UInt32 := match p.getLast? with
  | some (false, l) => l.getLast?
  | _ => none
theorem Zbwf (p : List Seg) (K : Int -> Bool -> Prop) (h : match Zqv p with | some x => K (x.toNat : Int) true | none => K 0 false) : Zpc p K := by
  unfold Zpc
  match p, h with
  | [], h => exact ifT rfl (by unfold Zkf; exact ifT rfl h)
  | (true, l) :: r, h =>
    refine ifF (by simp only [List.length_cons]; exact beq_eq_false_iff_ne.2 (by omega)) ⟨by omega, AtN.of rfl fun _ => ifT rfl ?_⟩
    unfold Zkf; exact ifT rfl h
  | (false, []) :: r, h =>
    refine ifF (by simp only [List.length_cons]; exact beq_eq_false_iff_ne.2 (by omega)) ⟨by omega, AtN.of rfl fun _ => ifF rfl ⟨by omega, AtN.of rfl fun _ => ?_⟩⟩
    unfold Zkf; exact ifT rfl h
  | (false, x :: l) :: r, h =>
    refine ifF (by simp only [List.length_cons]; exact beq_eq_false_iff_ne.2 (by omega)) ⟨by omega, AtN.of rfl fun _ => ifF rfl ⟨by omega, AtN.of rfl fun _ => ?_⟩⟩
    unfold Zkf; exact ifF (by simp only [List.length_cons]; exact beq_eq_false_iff_ne.2 (by omega)) ⟨by omega, AtN.of rfl fun _ => ⟨by omega, AtN.of rfl fun _ => h⟩⟩
theorem Zblq (p : List Seg) (K : Int -> Bool -> Prop) (hl : p.length <= 1000000) (hs : ∀ s ∈ p, s.2.length <= 1000000) (h : match Zep p with | some x => K (x.toNat : Int) true | none => K 0 false) : Zlt p K := by
  unfold Zlt; rcases List.eq_nil_or_concat p with rfl | ⟨q, s, rfl⟩; exact ifT rfl h; rw [List.concat_eq_append] at *; have hlen : (q ++ [s]).length = q.length + 1 := by simp
  have hw : IntKind.wrap .i64 (((q ++ [s]).length : Int) - 1) = (q.length : Int) := by rw [hlen, Zg (by omega) (by omega)]; omega
  have hat : (q ++ [s])[((q.length : Nat) : Int).toNat]? = some s := by rw [Int.toNat_natCast]; simp
  have hlast : (q ++ [s]).getLast? = some s := List.getLast?_concat; have hsl := hs s (by simp)
  unfold Zep at h; rw [hlast] at h; rw [hw]; refine ifF (by rw [hlen]; exact beq_eq_false_iff_ne.2 (by omega)) ⟨by omega, AtN.of hat fun _ => ?_⟩
  obtain ⟨b, l⟩ := s; cases b
  case true =>
    refine ifT rfl ?_; unfold Zya; exact ifT rfl h
  refine ifF rfl ?_; unfold Zya; rcases List.eq_nil_or_concat l with rfl | ⟨l', x, rfl⟩; exact ifT rfl h; rw [List.concat_eq_append] at *; simp only at hsl; have hll : (l' ++ [x]).length = l'.length + 1 := by simp
  have hw2 : IntKind.wrap .i64 (((l' ++ [x]).length : Int) - 1) = (l'.length : Int) := by rw [hll, Zg (by omega) (by omega)]; omega
  have h : match (l' ++ [x]).getLast? with | some x => K (x.toNat : Int) true | none => K 0 false := h
  rw [List.getLast?_concat] at h; refine ifF (by show (((l' ++ [x]).length : Int) == 0) = false; rw [hll]; exact beq_eq_false_iff_ne.2 (by omega)) ?_
  show 0 <= IntKind.wrap .i64 (((l' ++ [x]).length : Int) - 1) ∧ AtN (l' ++ [x]) (IntKind.wrap .i64 (((l' ++ [x]).length : Int) - 1)).toNat _; rw [hw2]; exact ⟨by omega, AtN.of (by rw [Int.toNat_natCast]; simp) fun _ => h⟩
end Go.Proofs.YtflfamhboalgiaaDoor
end
section
set_option maxRecDepth 10000
namespace Go.Proofs.YtflfamhboalgiaaDoor
open Go.Sh
theorem Zyq {w : List UInt8} {n : Nat} (h2 : canon w) (h1 : val w = n) (h3 : n <= 4294967295) : sysN w = n := by unfold sysN; rw [if_pos ⟨by omega, Zxi.1 h2⟩, h1]
theorem Zov {w : List UInt8} {n : Nat} (h2 : canon w) (h1 : val w = n) : Lib.decDigits n = w := by rw [← h1]; exact Zxi.1 h2
abbrev exT : List UInt8 := [54, 53, 48, 48, 49, 32, 54, 53, 48, 48, 50, 32, 123, 49, 32, 50, 125]
abbrev exP : List Seg := [(false, [65001, 65002]), (true, [1, 2])]
abbrev exQ : List Seg := [(false, [7, 7, 65001, 65002]), (true, [1, 2])]
theorem Zcpy : Zct exT = some exP := by
  have h1 : spl 32 exT = [[54, 53, 48, 48, 49], [54, 53, 48, 48, 50], [123, 49], [50, 125]] := by decide
  have s1 : sysN (cutC (cutO [54, 53, 48, 48, 49])) = 65001 := Zyq (w := [54, 53, 48, 48, 49]) (by unfold canon; decide) (by decide) (by decide)
  have s2 : sysN (cutC (cutO [54, 53, 48, 48, 50])) = 65002 := Zyq (w := [54, 53, 48, 48, 50]) (by unfold canon; decide) (by decide) (by decide)
  have s3 : sysN (cutC (cutO [123, 49])) = 1 := Zyq (w := [49]) (by unfold canon; decide) (by decide) (by decide)
  have s4 : sysN (cutC (cutO [50, 125])) = 2 := Zyq (w := [50]) (by unfold canon; decide) (by decide) (by decide)
  unfold Zct; rw [if_neg (by decide), h1]
  simp only [runW, stepW, s1, s2, s3, s4]; decide
theorem Zcva : Zdj exQ = [55, 32, 55, 32, 54, 53, 48, 48, 49, 32, 54, 53, 48, 48, 50, 32, 123, 49, 32, 50, 125] := by
  have d7 : dec 7 = [55] := Zov (n := 7) (by unfold canon; decide) (by decide)
  have d1 : dec 1 = [49] := Zov (n := 1) (by unfold canon; decide) (by decide)
  have d2 : dec 2 = [50] := Zov (n := 2) (by unfold canon; decide) (by decide)
  have d3 : dec 65001 = [54, 53, 48, 48, 49] := Zov (n := 65001) (by unfold canon; decide) (by decide)
  have d4 : dec 65002 = [54, 53, 48, 48, 50] := Zov (n := 65002) (by unfold canon; decide) (by decide)
  simp only [Zdj, segT, Zea, List.map_cons, List.map_nil, d7, d1, d2, d3, d4]; decide
theorem Zbnn {s : List UInt8} {p : List Seg} {K : List Seg -> Int -> Prop} (h : Zct s = some p) (hk : K p 0) : psK (Zct s) K := by rw [h]; exact hk
theorem Zpi (K : Bool -> Prop) (h : K true) : Zjp K := by
  unfold Zjp; refine fun _ => ⟨by decide, Zbnn Zcpy fun _ _ => ⟨by decide, by decide, ?_⟩⟩
  have e : Zcb exP (UInt32.ofNat (7 : Int).toNat) 2 = (exQ, 0) := by decide
  rw [e]; refine fun _ _ => Zbhz exQ _ (by decide) (by decide) ?_
  have e2 : txR exQ = (Zdj exQ, 0) := by unfold txR; rw [if_pos (by decide)]
  rw [e2, Zcva]; refine fun _ => ifT rfl fun _ => Zih exP _ (by decide) fun _ => ifT (by decide) (ifT rfl (ifT rfl (of_eq h ?_)))
  decide
theorem Znq (s : List Seg) (K : Bool -> Prop) (hl : s.length <= 1000000000) (hc : cnt s <= 1000000000) (h : K true) : Zhc s s K :=
  Zcpl s s K (by omega) (fun x hx => by have := Zew hx; omega) (by rw [beq_self_eq_true]; exact h)
theorem Zbcn {four : Bool} {b : List UInt8} {p : List Seg} (h : Zfy four b = some p) : p.length <= 64 ∧ cnt p <= 64 := by have := Zii (Zbwd h); exact ⟨this.1, this.2.1⟩
theorem Zcbd (four : Bool) (b : List UInt8) : ∃ (r : List Seg) (e : Int), r.length <= 64 ∧ cnt r <= 64 ∧ ∀ K : List Seg -> Int -> Prop, K r e -> rpK four b K := by
  unfold rpK; cases h : Zfy four b with
  | none => exact ⟨[], 7, by simp, by simp [cnt], fun K hk => hk⟩
  | some p => exact ⟨p, 0, (Zbcn h).1, (Zbcn h).2, fun K hk => hk⟩
theorem Zcfj {s : List UInt8} {p : List Seg} (h : Zct s = some p) : p = [] ∨ Zo p = true := by unfold Zct at h; split at h; cases h; exact .inl rfl; split at h; split at h; rename_i h1; cases h; exact .inr h1; cases h; cases h
theorem Zcja (s : List UInt8) : ∃ (r : List Seg) (e : Int), r.length <= 64 ∧ cnt r <= 64 ∧ ∀ K : List Seg -> Int -> Prop, K r e -> psK (Zct s) K := by
  unfold psK; cases h : Zct s with
  | none => exact ⟨[], 5, by simp, by simp [cnt], fun K hk => hk⟩
  | some p =>
    rcases Zcfj h with rfl | hp; exact ⟨[], 0, by simp, by simp [cnt], fun K hk => hk⟩
    exact ⟨p, 0, (Zii hp).1, (Zii hp).2.1, fun K hk => hk⟩
theorem Zcrf (p : List Seg) (b : List UInt8) (four : Bool) (K : Bool -> Prop) (hK : K true) : Zbgg p b four K := by
  unfold Zbgg; obtain ⟨h1, h2⟩ := Zkt p; have e3 : (min (b.length : Int) 400).toNat = min b.length 400 := by omega
  have hb : (b.take (min b.length 400)).length <= 400 := by rw [List.length_take]; omega
  rw [e3]; refine ⟨by omega, by omega, fun _ => Zft p _ fun _ _ => Zft _ _ ?_⟩
  generalize b.take (min b.length 400) = b' at *; obtain ⟨r, e, hr1, hr2, hrk⟩ := Zcbd four b'; rw [Zrp]; have hff := Zrp p; generalize fewP p = q at *; refine fun _ _ => Zym q four _ (by omega) (by omega) fun _ _ => Zcnj q four _ (by omega) (by omega) fun _ => ?_
  dsimp only [Zbbu]; refine fun _ => ⟨by simp only [List.length_nil]; omega, ?_⟩
  rw [List.nil_append]; refine fun _ _ => Zbfp b' four _ (by omega) (hrk _ fun _ _ => Zcaz b' four _ (by omega) (hrk _ fun _ _ => Zft q _ ?_))
  rw [hff]; refine fun _ _ => Zom q _ (by omega) (by omega) fun _ _ => Zny q _ (by omega) (by omega) fun _ => ifT (beq_self_eq_true _) fun _ => ?_
  dsimp only [Zsz]; exact fun _ => ifT (beq_self_eq_true _) (ifT (beq_self_eq_true _) fun _ => Znq r _ (by omega) (by omega) fun _ => ifT rfl (ifT (beq_self_eq_true _) fun _ => Zpi _ fun _ => hK))
theorem Zbww (p q : List Seg) : (Zfe p q).length <= p.length + q.length ∧ cnt (Zfe p q) <= cnt p + cnt q := by
  unfold Zfe; split; omega
  . obtain ⟨f1, f2⟩ := Zoo p (lenP p - lenP q); generalize Zbh p (lenP p - lenP q) = out at *; rcases List.eq_nil_or_concat out with rfl | ⟨o, t, rfl⟩
    . have e : Zcw [] q = q := by cases q <;> rfl
      rw [e]; omega
    . rw [List.concat_eq_append] at *; have hl : (o ++ [t]).getLast? = some t := List.getLast?_concat; rw [Zds] at f2; simp only [List.length_append, List.length_singleton] at f1; cases q with
      | nil =>
        have e : Zcw (o ++ [t]) [] = o ++ [t] := by unfold Zcw; rw [hl]; simp
        rw [e, Zds]; simp; omega
      | cons r rest =>
        have e2 : cnt (r :: rest) = r.2.length + cnt rest := by simp [cnt]
        unfold Zcw; rw [hl]; simp only; split; rw [List.dropLast_concat, Zxq, e2]; simp only [List.length_append, List.length_cons]; omega; rw [Zbsf, Zds, e2]; simp only [List.length_append, List.length_cons, List.length_nil]; omega
theorem Zcah (p : List Seg) (u : UInt32) (n : Int) (hl : p.length <= 6000) (hc : cnt p <= 10000) : (Zcb p u n).1.length <= 6001 ∧ cnt (Zcb p u n).1 <= 10100 := by unfold Zcb; split; simp [cnt]; split; simp [cnt]; rename_i h1 h2; have h3 := Zbgv p u n.toNat; have h4 := Zbin p u n.toNat; simp only; omega
theorem Zcbn (p q : List Seg) (u : UInt32) (n : Int) (hn : -9223372036854775808 <= n ∧ n <= 9223372036854775807) (K : Bool -> Prop) (hK : K true) : Zws p q (u.toNat : Int) n K := by
  unfold Zws; obtain ⟨h1, h2⟩ := Zkt p; obtain ⟨h3, h4⟩ := Zkt q; refine fun _ => Zft p _ fun _ _ => Zft q _ fun _ _ => Zft _ _ ?_; have e1 := Zrp p; have e2 := Zrp q; rw [e1]; generalize fewP p = a at *; generalize fewP q = b at *; have hu : UInt32.ofNat ((u.toNat : Nat) : Int).toNat = u := by rw [Int.toNat_natCast]; simp
  obtain ⟨b1, b2⟩ := Zcah a u n (by omega) (by omega)
  obtain ⟨m1, m2⟩ := Zbww a b; refine fun _ _ => ⟨by omega, by omega, ?_⟩
  rw [hu]; refine fun _ _ => Zcsx a u n _ (by omega) (by omega) hn fun _ _ => Znq _ _ (by omega) (by omega) fun _ => ifT rfl (ifT (beq_self_eq_true _) fun _ => Zft a _ ?_)
  rw [e1]; refine fun _ _ => Zft b _ ?_; rw [e2]; exact fun _ _ => Zbpw a b _ (by omega) (by omega) fun _ _ => ⟨by omega, by omega, fun _ _ => Znq _ _ (by omega) (by omega) fun _ => ifT rfl fun _ => Zpi _ fun _ => hK⟩
theorem Zcap (p : List Seg) (s : List UInt8) (K : Bool -> Prop) (hK : K true) : Zbcx p s K := by
  unfold Zbcx; obtain ⟨h1, h2⟩ := Zkt p; have e3 : (min (s.length : Int) 200).toNat = min s.length 200 := by omega
  have hb : (s.take (min s.length 200)).length <= 200 := by rw [List.length_take]; omega
  rw [e3]; refine ⟨by omega, by omega, fun _ => Zft p _ fun _ _ => Zft _ _ ?_⟩
  generalize s.take (min s.length 200) = t at *; obtain ⟨r, e, hr1, hr2, hrk⟩ := Zcja t; rw [Zrp]; generalize fewP p = q at *; refine fun _ _ => Zbhz q _ (by omega) (by omega) fun _ _ => Zcfr q _ (by omega) (by omega) fun _ _ => ⟨by omega, hrk _ fun _ _ => ⟨by omega, hrk _ fun _ => ifT (beq_self_eq_true _) (ifT (beq_self_eq_true _) fun _ => Znq r _ (by omega) (by omega) fun _ => ifT rfl (ifT (beq_self_eq_true _) fun _ => Zpi _ fun _ => hK))⟩⟩
theorem Zcql (x : PkTs Zps) (hw : WfPs Zps x) : Zws x.1 x.2.1 x.2.2.1 x.2.2.2.1 fun r => r = true := by
  obtain ⟨p, q, u, n, _⟩ := x; have hu : InR .u32 u := hw.2.2.1; have hn : InR .i64 n := hw.2.2.2.1; simp only [InR, loI, hiI] at hu hn; change Int at u; obtain ⟨w, rfl⟩ : ∃ w : Nat, u = w := ⟨u.toNat, by omega⟩
  have hw : (UInt32.ofNat w).toNat = w := by rw [UInt32.toNat_ofNat', Nat.mod_eq_of_lt (by omega)]
  have := Zcbn p q (UInt32.ofNat w) n hn (fun r => r = true) rfl; rw [hw] at this; exact this
end Go.Proofs.YtflfamhboalgiaaDoor
end
