/-
  Packets: what was built is read; a byte turned in a head is found.
-/
import Derived.Test.YtolmljommmhpkaaDoorIp3
set_option linter.unusedSectionVars false
set_option linter.unusedSimpArgs false
set_option linter.unusedVariables false
namespace Go.Proofs.YtolmljommmhpkaaDoor
open Go.Sh

/-- The sum of the words. -/
def wsum : List UInt8 → Nat
  | [] => 0
  | [x] => 256 * x.toNat
  | x :: y :: r => 256 * x.toNat + y.toNat + wsum r
theorem adds_mod : ∀ (k n : Nat) (xs : List UInt8), xs.length ≤ k → n ≤ 65535 → adds n xs % 65535 = (n + wsum xs) % 65535 ∧ (adds n xs = 0 ↔ n = 0 ∧ wsum xs = 0) := by
  intro k
  induction k with
  | zero =>
    intro n xs h hn
    have : xs = [] := List.eq_nil_of_length_eq_zero (by omega)
    subst this; simp [adds, wsum]
  | succ k ih =>
    intro n xs h hn
    match xs, h with
    | [], _ => simp [adds, wsum]
    | [x], _ =>
      have := u8_lt x
      have h1 := rnd_mod (n + 256 * x.toNat) (by omega)
      have h2 := rnd_zero (n + 256 * x.toNat) (by omega)
      simp only [adds, wsum]
      exact ⟨h1, by rw [h2]; omega⟩
    | x :: y :: r, h =>
      have := u8_lt x; have := u8_lt y
      have h1 := rnd_mod (n + 256 * x.toNat + y.toNat) (by omega)
      have h2 := rnd_zero (n + 256 * x.toNat + y.toNat) (by omega)
      obtain ⟨h3, h4⟩ := ih (rnd (n + 256 * x.toNat + y.toNat)) r (by simp at h; omega) (rnd_le _ (by omega))
      simp only [adds, wsum]
      exact ⟨by omega, by rw [h4, h2]; omega⟩
theorem tot_iff (b : List UInt8) : tot b = 65535 ↔ wsum b % 65535 = 0 ∧ wsum b ≠ 0 := by
  obtain ⟨h1, h2⟩ := adds_mod b.length 0 b (Nat.le_refl _) (by omega)
  have := tot_le b
  unfold tot at *
  omega
theorem wsum_set : ∀ (m : Nat) (l : List UInt8) (k : Nat) (x y : UInt8), l.length ≤ m → l[k]? = some x → wsum (l.set k y) + (if k % 2 = 0 then 256 else 1) * x.toNat = wsum l + (if k % 2 = 0 then 256 else 1) * y.toNat := by
  intro m
  induction m with
  | zero =>
    intro l k x y h hx
    have : l = [] := List.eq_nil_of_length_eq_zero (by omega)
    subst this; simp at hx
  | succ m ih =>
    intro l k x y h hx
    match l, k, h, hx with
    | [], _, _, hx => simp at hx
    | [z], 0, _, hx => simp at hx; subst hx; simp [wsum]; omega
    | [z], k + 1, _, hx => simp at hx
    | z :: z2 :: r, 0, _, hx => simp at hx; subst hx; simp [wsum]; omega
    | z :: z2 :: r, 1, _, hx => simp at hx; subst hx; simp [wsum]; omega
    | z :: z2 :: r, k + 2, h, hx =>
      have h2 := ih r k x y (by simp at h; omega) (by simpa using hx)
      simp only [List.set_cons_succ, wsum, Nat.add_mod_right]
      omega

theorem b2 (n : Nat) (h : n < 65536) : 256 * (UInt8.ofNat (n / 256)).toNat + (UInt8.ofNat n).toNat = n := by
  rw [UInt8.toNat_ofNat', UInt8.toNat_ofNat']; omega
theorem b1 (n : Nat) (h : n < 256) : (UInt8.ofNat n).toNat = n := by
  rw [UInt8.toNat_ofNat']; omega
theorem b2w (n : Nat) (h : n < 4294967296) : 256 * (UInt8.ofNat (n / 256)).toNat + (UInt8.ofNat n).toNat = n % 65536 := by
  rw [UInt8.toNat_ofNat', UInt8.toNat_ofNat']; omega
theorem wsum_hd (id a life kind : Nat) (w m : Bool) (s t : UInt32) (len c : Nat) (hi : id < 65536) (ha : a ≤ 8191) (hl : life < 256) (hk : kind < 256) (hn : len ≤ 65515) (hc : c < 65536) :
    wsum (hd id a life kind w m s t len c) = 17664 + (20 + len) + id + fl a w m + (256 * life + kind) + c + s.toNat / 65536 + s.toNat % 65536 + t.toNat / 65536 + t.toNat % 65536 := by
  have hs := u32_lt s; have ht := u32_lt t
  have hf := fl_lt w m (a := a) ha
  have e1 := b2 (20 + len) (by omega); have e2 := b2 id hi; have e3 := b2 (fl a w m) (by omega); have e4 := b1 life hl; have e5 := b1 kind hk; have e6 := b2 c hc
  have e7 := b2 (s.toNat / 65536) (by omega); have e8 := b2w s.toNat hs; have e9 := b2 (t.toNat / 65536) (by omega); have e10 := b2w t.toNat ht
  simp only [hd, wsum]
  rw [show (69 : UInt8).toNat = 69 from rfl, show (0 : UInt8).toNat = 0 from rfl]
  omega
theorem hds_sum (id a life kind : Nat) (w m : Bool) (s t : UInt32) (len : Nat) (hi : id < 65536) (ha : a ≤ 8191) (hl : life < 256) (hk : kind < 256) (hn : len ≤ 65515) : tot (hds id a life kind w m s t len) = 65535 := by
  rw [tot_iff]
  have h0 := tot_le (hd id a life kind w m s t len 0)
  obtain ⟨h1, _⟩ := adds_mod _ 0 (hd id a life kind w m s t len 0) (Nat.le_refl _) (by omega)
  have e0 := wsum_hd id a life kind w m s t len 0 hi ha hl hk hn (by omega)
  have e1 := wsum_hd id a life kind w m s t len (65535 - tot (hd id a life kind w m s t len 0)) hi ha hl hk hn (by omega)
  unfold hds
  have h2 : tot (hd id a life kind w m s t len 0) % 65535 = wsum (hd id a life kind w m s t len 0) % 65535 := by rw [tot, h1, Nat.zero_add]
  omega

/-- What was built is read. -/
theorem rd_hd (id a life kind : Nat) (w m : Bool) (s t : UInt32) (d more : List UInt8) (hi : id < 65536) (ha : a ≤ 8191) (hl : life < 256) (hk : kind < 256) (hn : d.length ≤ 65515) :
    rd (hds id a life kind w m s t d.length ++ d ++ more) = (((id : Int), (a : Int), (life : Int), (kind : Int), w, m, s, t, d), 0) := by
  have hs := u32_lt s; have ht := u32_lt t
  have hf := fl_lt w m (a := a) ha
  have h0 := tot_le (hd id a life kind w m s t d.length 0)
  have hsum := hds_sum id a life kind w m s t d.length hi ha hl hk hn
  have hlen : (hds id a life kind w m s t d.length).length = 20 := rfl
  have hlb : (hds id a life kind w m s t d.length ++ d ++ more).length = 20 + d.length + more.length := by simp only [List.length_append, hlen]
  have ht20 : (hds id a life kind w m s t d.length ++ d ++ more).take 20 = hds id a life kind w m s t d.length := by
    rw [List.append_assoc, ← hlen, List.take_left]
  have hdat : ((hds id a life kind w m s t d.length ++ d ++ more).take (20 + d.length)).drop 20 = d := by
    have e1 : (hds id a life kind w m s t d.length ++ d).length = 20 + d.length := by rw [List.length_append, hlen]
    rw [← e1, List.take_left, ← hlen, List.drop_left]
  have g0 : g (hds id a life kind w m s t d.length ++ d ++ more) 0 = 69 := rfl
  have g2 : gw (hds id a life kind w m s t d.length ++ d ++ more) 2 = 20 + d.length := b2 (20 + d.length) (by omega)
  have g4 : gw (hds id a life kind w m s t d.length ++ d ++ more) 4 = id := b2 id hi
  have g6 : gw (hds id a life kind w m s t d.length ++ d ++ more) 6 = fl a w m := b2 (fl a w m) (by omega)
  have g8 : g (hds id a life kind w m s t d.length ++ d ++ more) 8 = life := b1 life hl
  have g9 : g (hds id a life kind w m s t d.length ++ d ++ more) 9 = kind := b1 kind hk
  have g12 : gw (hds id a life kind w m s t d.length ++ d ++ more) 12 = s.toNat / 65536 := b2 _ (by omega)
  have g14 : gw (hds id a life kind w m s t d.length ++ d ++ more) 14 = s.toNat % 65536 := b2w _ hs
  have g16 : gw (hds id a life kind w m s t d.length ++ d ++ more) 16 = t.toNat / 65536 := b2 _ (by omega)
  have g18 : gw (hds id a life kind w m s t d.length ++ d ++ more) 18 = t.toNat % 65536 := b2w _ ht
  have g6' : 256 * g (hds id a life kind w m s t d.length ++ d ++ more) 6 + g (hds id a life kind w m s t d.length ++ d ++ more) 7 = fl a w m := g6
  generalize hds id a life kind w m s t d.length ++ d ++ more = b at *
  rw [rd_well b (by rw [g0, g2]; omega) (by rw [g0]; show tot (b.take 20) = 65535; rw [ht20]; exact hsum), g0, g2, g4, g6, g8, g9, g12, g14, g16, g18]
  rw [show (4 * (69 % 16)) = 20 from rfl, hdat]
  have es : UInt32.ofNat (65536 * (s.toNat / 65536) + s.toNat % 65536) = s := by
    rw [Nat.div_add_mod]; exact UInt32.ofNat_toNat
  have et : UInt32.ofNat (65536 * (t.toNat / 65536) + t.toNat % 65536) = t := by
    rw [Nat.div_add_mod]; exact UInt32.ofNat_toNat
  have ea : fl a w m % 8192 = a := by unfold fl; split <;> split <;> omega
  have ew : decide (fl a w m / 16384 % 2 = 1) = w := by
    cases w <;> cases m <;> simp [fl] <;> omega
  have em : decide (fl a w m / 8192 % 2 = 1) = m := by
    cases w <;> cases m <;> simp [fl] <;> omega
  rw [es, et, ea, ew, em]

theorem bld_ok {id at_ life kind : Int} {w m : Bool} {s t : UInt32} {d : List UInt8} (h : (bld id at_ life kind w m s t d).2 = 0) :
    ∃ i a l k : Nat, id = i ∧ at_ = a ∧ life = l ∧ kind = k ∧ i < 65536 ∧ a ≤ 8191 ∧ l < 256 ∧ k < 256 ∧ d.length ≤ 65515 ∧ (bld id at_ life kind w m s t d).1 = hds i a l k w m s t d.length ++ d := by
  unfold bld at h ⊢
  by_cases hok : okP id at_ life kind = false
  · rw [if_pos hok] at h; cases h
  · rw [if_neg hok] at h ⊢
    have hok : okP id at_ life kind = true := by simpa using hok
    by_cases h2 : 65515 < d.length
    · rw [if_pos h2] at h; cases h
    · rw [if_neg h2] at h ⊢
      rw [okP_iff] at hok
      exact ⟨id.toNat, at_.toNat, life.toNat, kind.toNat, by omega, by omega, by omega, by omega, by omega, by omega, by omega, by omega, by omega, rfl⟩
theorem bld_no {id at_ life kind : Int} {w m : Bool} {s t : UInt32} {d : List UInt8} (h : (bld id at_ life kind w m s t d).2 ≠ 0) : (bld id at_ life kind w m s t d).1 = [] := by
  unfold bld at h ⊢
  repeat' split
  · rfl
  · rfl
  · rename_i h1 h2
    rw [if_neg h1, if_neg h2] at h
    exact absurd rfl h

theorem ipBack_c (p : Pkt) (more : List UInt8) : law07_IpBack_q p more (fun r => r = true) := by
  obtain ⟨id, at_, life, kind, w, m, s, t, d⟩ := p
  unfold law07_IpBack_q
  refine fun _ => works_c _ fun _ => ifF rfl ?_
  simp only [ofI_u32]
  refine fun _ => few_c _ _ _ _ _ _ _ _ _ 2000 _ (by decide) fun _ _ => ?_
  simp only [ofI_u32]
  refine build_c _ _ _ _ _ _ _ _ _ _ fun _ => IfB.intro (fun h => ?_) (fun h => ?_)
  · rw [bld_no (by simpa using h)]; rfl
  have h : (bld id at_ life kind w m s t (fewD d 2000)).2 = 0 := by simpa using h
  obtain ⟨i, a, l, k, rfl, rfl, rfl, rfl, hi, ha, hl, hk, hd, e⟩ := bld_ok h
  have hd2 := fewD_short hd
  rw [e]
  generalize fewD d 2000 = d at *
  have hm : (more.take (min (more.length : Int) 100).toNat).length ≤ 100 := by rw [List.length_take]; omega
  refine ⟨by omega, by omega, ?_⟩
  generalize more.take (min (more.length : Int) 100).toNat = mo at *
  have hlen : (hds i a l k w m s t d.length).length = 20 := rfl
  refine ⟨by rw [List.length_append, hlen]; omega, fun _ => read_c _ _ (by rw [List.length_append, List.length_append, hlen]; omega) ?_⟩
  rw [rd_hd i a l k w m s t d mo hi ha hl hk hd]
  simp only [ofI_u32]
  refine fun _ => ifT (by simp) fun _ => plain_c _ _ fun _ _ => plain_c _ _ fun _ => ?_
  simp only [ofI_u32]
  exact fun _ => same_c _ _ fun _ => rfl

theorem among_c (x : Int) (n : Nat) (K : Int → Prop) (h1 : 1 ≤ n) (h2 : n ≤ 1000000) (hk : ∀ r : Nat, r < n → K r) : base_Among_q x n K := by
  unfold base_Among_q
  refine ifF (decide_eq_false (by omega)) ?_
  rw [show IntKind.wrap .u64 (n : Int) = (n : Int) by rw [wr_u64]; omega]
  refine ⟨by omega, ?_⟩
  have h0 : 0 ≤ IntKind.wrap .u64 x := by rw [wr_u64]; omega
  obtain ⟨y, hy⟩ := Int.eq_ofNat_of_zero_le h0
  rw [hy, show Int.tmod (y : Int) (n : Int) = ((y % n : Nat) : Int) from rfl]
  have hlt : y % n < n := Nat.mod_lt _ (by omega)
  rw [wi64n _ (by omega)]
  exact hk _ hlt

theorem ipFinds_c (p : Pkt) (at_ by_ : Int) (hb : 0 ≤ by_ ∧ by_ ≤ 255) : law07_IpFinds_q p at_ by_ (fun r => r = true) := by
  obtain ⟨id, at1, life, kind, w, m, s, t, d⟩ := p
  obtain ⟨y, rfl⟩ := Int.eq_ofNat_of_zero_le hb.1
  unfold law07_IpFinds_q
  refine fun _ => works_c _ fun _ => ifF rfl ?_
  simp only [ofI_u32]
  refine fun _ => few_c _ _ _ _ _ _ _ _ _ 100 _ (by decide) fun _ _ => ?_
  simp only [ofI_u32]
  refine build_c _ _ _ _ _ _ _ _ _ _ fun _ => IfB.intro (fun h => ifT rfl rfl) (fun h => IfB.intro (fun h2 => rfl) (fun h2 => ?_))
  have h : (bld id at1 life kind w m s t (fewD d 100)).2 = 0 := by simpa using h
  have hy : y ≠ 0 := by simp at h2; omega
  obtain ⟨i, a, l, k, rfl, rfl, rfl, rfl, hi, ha, hl, hk, hd, e⟩ := bld_ok h
  have hd2 := fewD_short hd
  rw [e]
  generalize fewD d 100 = d at *
  have hlen : (hds i a l k w m s t d.length).length = 20 := rfl
  have hsum := hds_sum i a l k w m s t d.length hi ha hl hk hd
  have hg0 : (hds i a l k w m s t d.length)[0]? = some 69 := rfl
  refine fun _ => among_c at_ 19 _ (by decide) (by decide) fun r hr _ => ?_
  have er : IntKind.wrap .i64 (1 + (r : Int)) = ((1 + r : Nat) : Int) := by rw [wr_i64 (by omega) (by omega)]; omega
  rw [er, Int.toNat_natCast]
  generalize hds i a l k w m s t d.length = H at *
  have hx : (H ++ d)[1 + r]? = some (H[1 + r]'(by omega)) := by rw [List.getElem?_append_left (by omega)]; exact List.getElem?_eq_getElem (by omega)
  refine ⟨by omega, by rw [List.length_append]; omega, AtN.of hx fun _ => ⟨by omega, by rw [List.length_append]; omega, AtN.of hx fun _ _ => ?_⟩⟩
  refine read_c _ _ (by rw [List.length_set, List.length_append]; omega) fun _ => ?_
  show ((rd _).2 != 0) = true
  generalize hz : H[1 + r]'(by omega) = z at *
  have hlz := u8_lt z
  have hH : H[1 + r]? = some z := by rw [List.getElem?_eq_getElem (by omega), hz]
  have exor : bitsXor .u8 (z.toNat : Int) (y : Int) = ((z.toNat ^^^ y : Nat) : Int) := by
    have : z.toNat ^^^ y < 2 ^ 8 := Nat.xor_lt_two_pow (by omega) (by omega)
    rw [xor_nat .u8 _ _ (lt_u8 hlz) (lt_u8 (by omega)), wu8m, Nat.mod_eq_of_lt (by omega)]
  have hne : z.toNat ^^^ y ≠ z.toNat := fun e => hy (by
    have h3 : z.toNat ^^^ (z.toNat ^^^ y) = z.toNat ^^^ z.toNat := by rw [e]
    rw [← Nat.xor_assoc, Nat.xor_self, Nat.zero_xor] at h3; exact h3)
  have hlt : z.toNat ^^^ y < 256 := Nat.xor_lt_two_pow (n := 8) (by omega) (by omega)
  rw [exor, List.set_append_left _ _ (by omega)]
  generalize z.toNat ^^^ y = v at *
  have hv : (ofI .u8 (v : Int) : UInt8).toNat = v := b1 v hlt
  generalize (ofI .u8 (v : Int) : UInt8) = u at *
  have hw := wsum_set H.length H (1 + r) z u (Nat.le_refl _) hH
  have hl2 : (H.set (1 + r) u).length = 20 := by rw [List.length_set]; exact hlen
  have hb0 : g (H.set (1 + r) u ++ d) 0 = 69 := by
    unfold g
    rw [List.getElem?_append_left (by omega), List.getElem?_set_ne (by omega), hg0]; rfl
  have ht20 : (H.set (1 + r) u ++ d).take 20 = H.set (1 + r) u := by rw [← hl2, List.take_left]
  rw [tot_iff] at hsum
  have hnot : tot (H.set (1 + r) u) ≠ 65535 := by
    rw [Ne, tot_iff]
    intro h3
    rw [hv] at hw
    split at hw <;> omega
  by_cases hwr : ((H.set (1 + r) u ++ d).length < 20 ∨ g (H.set (1 + r) u ++ d) 0 / 16 ≠ 4 ∨ 4 * (g (H.set (1 + r) u ++ d) 0 % 16) < 20 ∨ (H.set (1 + r) u ++ d).length < 4 * (g (H.set (1 + r) u ++ d) 0 % 16) ∨ gw (H.set (1 + r) u ++ d) 2 < 4 * (g (H.set (1 + r) u ++ d) 0 % 16) ∨ (H.set (1 + r) u ++ d).length < gw (H.set (1 + r) u ++ d) 2 ∨ 128 ≤ g (H.set (1 + r) u ++ d) 6)
  · rw [rd_wrong _ hwr]; rfl
  · rw [rd_sum _ hwr (by rw [hb0]; show tot (List.take 20 _) ≠ 65535; rw [ht20]; exact hnot)]; rfl

end Go.Proofs.YtolmljommmhpkaaDoor
