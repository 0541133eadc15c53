/-
  unsafe.String over bytes in a block, said of the heap.
  append(b, s...) with s a string, said of the heap.
  Addresses turned into unsafe pointers and back, said of the heap.
-/
import Derived.Test.YtcnbolonnlmlgaaDoorSh17
import Derived.Lib.UnsafeStr
section
set_option linter.unusedVariables false
set_option linter.unusedSimpArgs false
namespace Go.Sh

def bvl (l : List UInt8) : List Value := l.map fun x => .int .u8 (x.toNat : Int)
theorem semW_loadBytes {P : Program} {H : Heap} {b : Nat} : ∀ (l : List UInt8) (o : Nat) (acc : ByteArray) {K : ByteArray → Heap → Prop}, (∀ j x, l[j]? = some x → H.cell ⟨b, o + j, none⟩ = some (.int .u8 (x.toNat : Int))) → K ⟨acc.data ++ l.toArray⟩ H → SemW P (loadBytes ⟨b, o, none⟩ acc l.length) H K
  | [], o, acc, K, _, hk => by
    show K acc H
    have e : acc = ⟨acc.data ++ ([] : List UInt8).toArray⟩ := by simp
    rw [e]; exact hk
  | x :: l, o, acc, K, h, hk => by
    have h0 : H.cell ⟨b, o, none⟩ = some (.int .u8 (x.toNat : Int)) := h 0 x rfl
    have ih := semW_loadBytes (P := P) (H := H) (b := b) l (o + 1) (acc.push x) (K := K) (fun j y hy => by
      have := h (j + 1) y (by simpa using hy)
      rw [show o + 1 + j = o + (j + 1) by omega]; exact this) (by
      have e : (⟨(acc.push x).data ++ l.toArray⟩ : ByteArray) = ⟨acc.data ++ (x :: l).toArray⟩ := by
        apply ByteArray.ext
        simp [ByteArray.push]
      rw [e]; exact hk)
    have hx : ((x.toNat : Int).toNat).toUInt8 = x := by simp
    show SemW P (loadBytes ⟨b, o, none⟩ acc (l.length + 1)) H K
    unfold loadBytes
    refine (SemW.bind _ _ _ _).2 ⟨_, h0, ?_⟩
    show SemW P (loadBytes ((⟨b, o, none⟩ : Addr).add 1) (acc.push ((x.toNat : Int).toNat).toUInt8) l.length) H K
    rw [hx]
    exact ih
theorem semW_ustr {P : Program} {pt ti ty T : TypeId} {H : Heap} {b : Nat} {l : List UInt8} {rest : List Value} {K : Value → Heap → Prop} (hu : P.underlying pt = some (.pointer T)) (hc : P.cellsOf T = 1) (hb : Blk H b T ⟨bvl l ++ rest⟩) (hl : l ≠ []) (hmax : l.length ≤ 1000000000)
    (hk : ∀ H', (∀ x, x ≠ b → H' x = H x) → H' b ≠ none → K (.string (bstr l)) H') : SemW P (Builtin.unsafeString_ #[pt, ti] ty #[.pointer (some ⟨b, 0, none⟩), .int .i64 (l.length : Int)]) H K := by
  have hn : 0 < l.length := List.length_pos_iff.2 hl
  show SemW P (asInt (.int .i64 (l.length : Int)) >>= _) H K
  refine (SemW.bind _ _ _ _).2 ?_
  show SemW P (if (l.length : Int) < 0 then _ else _) H K
  rw [if_neg (by omega)]
  show SemW P (if (l.length : Int) > IntKind.i64.max then _ else _) H K
  rw [if_neg (by have : IntKind.i64.max = 9223372036854775807 := by decide
                 rw [this]; omega)]
  show SemW P (if (l.length : Int) = 0 then _ else _) H K
  rw [if_neg (by omega)]
  show SemW P (elemOf pt >>= _) H K
  refine (SemW.bind _ _ _ _).2 ?_
  show SemW P (underlying pt >>= _) H _
  refine (SemW.bind _ _ _ _).2 (semW_underlying hu ?_)
  show SemW P (variablesAt ⟨b, 0, none⟩ T (l.length : Int).toNat >>= _) H K
  refine (SemW.bind _ _ _ _).2 ?_
  rw [Int.toNat_natCast]
  show (∃ o, H b = some o) ∧ SemW P _ H _
  refine ⟨⟨_, hb⟩, ?_⟩
  rw [blk_shape hb]
  show SemW P (if (liesAt P P.depth T ((⟨bvl l ++ rest⟩ : Array Value).size / P.cellsOf T) 0 T l.length) = true then _ else _) H K
  rw [if_pos (Go.Lib.liesAt_bytes hc _ _ (by rw [hc]; simp [bvl]))]
  refine (SemW.bind _ _ _ _).2 (semW_loadBytes l 0 .empty (fun j x hx => ?_) ?_)
  · rw [hb.cell]
    have hj : j < l.length := (List.getElem?_eq_some_iff.1 hx).1
    simp only [Nat.zero_add, List.getElem?_toArray]
    rw [List.getElem?_append_left (by simpa [bvl] using hj)]
    simp [bvl, hx]
  · show (∃ o, H b = some o) ∧ K (.string ⟨ByteArray.empty.data ++ l.toArray⟩) (H.frz ⟨b, 0, none⟩ l.length)
    refine ⟨⟨_, hb⟩, ?_⟩
    have e : (⟨ByteArray.empty.data ++ l.toArray⟩ : ByteArray) = bstr l := by apply ByteArray.ext; simp [bstr]
    rw [e]
    have e0 : ¬ l.length = 0 := by omega
    have ef : H.frz ⟨b, 0, none⟩ l.length = H.alter b (Heap.frzO ⟨b, 0, none⟩ l.length) := by unfold Heap.frz; rw [if_neg e0]
    rw [ef]
    refine hk _ (fun x hx => ?_) ?_
    · unfold Heap.alter
      simp only [if_neg hx]
    · unfold Heap.alter
      simp only [if_true]
      unfold Blk at hb
      rw [hb]
      simp
theorem semW_ustr_nil {P : Program} {pt ti : TypeId} {ty : TypeId} {H : Heap} {K : Value → Heap → Prop} (hk : K (.string .empty) H) : SemW P (Builtin.unsafeString_ #[pt, ti] ty #[.pointer none, .int .i64 0]) H K := by
  show SemW P (asInt (.int .i64 0) >>= _) H K
  refine (SemW.bind _ _ _ _).2 ?_
  exact hk

end Go.Sh
end

section
set_option linter.all false
namespace Go.Sh

theorem AppW.introS {P : Program} {st xt t e : TypeId} {base : Option Addr} {sLen sCap n sz by_ : Nat} {old new z : List Value} {l : List UInt8} {H : Heap} {K : Value → Heap → Prop} {it : TypeInfo}
    (hu : P.underlying st = some (.slice e)) (hx : P.underlying xt = some .string) (hi : P.info? e = some it) (hsz : it.size = sz) (hby : it.bytes = by_) (hb0 : by_ ≠ 0) (hz : zeroL P e = some z)
    (hzl : z.length = sz) (hold : Reads H base (sLen * sz) old) (hn : n = l.length) (hs1 : sz = 1) (hnew : new = bvl l) (hfit : (2 * (sLen + n) + 192) * by_ ≤ 2 ^ 48 ∨ (sCap = 0 ∧ (sLen + n) * by_ ≤ 2 ^ 48))
    (hin : sLen + n ≤ sCap → match base with
      | none => n = 0 ∧ K (.slice none (sLen + n) sCap) H
      | some a => a.spot = none ∧ ∃ c T, Blk H a.block T c ∧ a.off + sCap * sz ≤ c.size ∧ (∀ v ∈ new, plainC v = true) ∧
          ∀ H', Blk H' a.block T (putRow c (a.off + sLen * sz) new) → (∀ b, b ≠ a.block → H' b = H b) → K (.slice (some a) (sLen + n) sCap) H')
    (hout : sCap < sLen + n → ∀ m cap, H m = none → sLen + n ≤ cap → cap ≤ 9223372036854775807 → K (.slice (some ⟨m, 0, none⟩) (sLen + n) cap) (H.upd m (.cells ⟨old ++ new ++ repL (cap - (sLen + n)) z⟩ e))) :
    AppW P #[st, xt] t [.slice base sLen sCap, .string (bstr l)] H K := by
  have hfc : ∀ (K' : Array Value → Heap → Prop), K' ⟨new⟩ H → SemW P (Builtin.firstCells sz n (.string (bstr l))) H K' := fun K' hk => by
    have e : (⟨new⟩ : Array Value) = (((bstr l).extract 0 n).data.map fun b => Value.int .u8 b.toNat) := by
      rw [hnew, hn]
      apply Array.ext'
      simp [bvl, bstr, ByteArray.extract, ByteArray.copySlice]
    rw [e] at hk
    exact hk
  have hsn : (bstr l).size = n := by rw [hn]; simp [bstr, ByteArray.size]
  have hnl : new.length = n * sz := by rw [hnew, hn, hs1]; simp [bvl]
  unfold AppW Builtin.append_
  have hsize : szOf P e = some sz := by unfold szOf; rw [hi, ← hsz]
  refine (SemW.bind _ _ _ _).2 (semW_underlying hu ?_)
  refine (SemW.bind _ _ _ _).2 (semW_szOf hsize ?_)
  refine (SemW.bind _ _ _ _).2 ?_
  refine (SemW.bind _ _ _ _).2 ?_
  change SemW P (underlying xt) H _
  refine semW_underlying hx ?_
  change SemW P (if sLen + (bstr l).size ≤ sCap then _ else _) H K
  rw [hsn]
  by_cases hc : sLen + n ≤ sCap
  · rw [if_pos hc]
    refine (SemW.bind _ _ _ _).2 ?_
    change SemW P (Builtin.firstCells sz n (.string (bstr l))) H _
    refine hfc _ ?_
    have h := hin hc
    cases base with
    | none => exact h.2
    | some a =>
      obtain ⟨hsp, c, T, hb, hlen, hpl, hk⟩ := h
      change SemW P (storeCells (a.add (sLen * sz)) new >>= fun _ => pure (.slice (some a) (sLen + n) sCap)) H K
      refine (SemW.bind _ _ _ _).2 ?_
      rw [add_of_spot hsp]
      have hl2 := hnl
      have hmul : (sLen + n) * sz ≤ sCap * sz := Nat.mul_le_mul_right sz hc
      rw [Nat.add_mul] at hmul
      refine semW_storeCells new 0 H c hb hpl (by omega) fun H' hb' ho => ?_
      exact hk H' hb' ho
  · rw [if_neg hc]
    have hcap : sCap < sLen + n := by omega
    have ht : ∀ (K' : TypeInfo → Heap → Prop), K' it H → SemW P (typeInfo e) H K' := fun K' hk => by
      unfold typeInfo
      refine (SemW.bind _ _ _ _).2 ?_
      change SemW P (match P.info? e with | some i => pure i | none => stuck "no such type") H K'
      rw [hi]; exact hk
    change SemW P (typeInfo e >>= _) H K
    refine (SemW.bind _ _ _ _).2 (ht _ ?_)
    rw [hby]
    rw [if_neg (by simp [hb0])]
    change SemW P (typeInfo e >>= _) H K
    refine (SemW.bind _ _ _ _).2 (ht _ ?_)
    rw [hby]
    have hfit' : ¬ (Builtin.nextslicecap (sLen + n) sCap * by_ > 2 ^ 48) := by
      rcases hfit with h | ⟨h0, h⟩
      · have h1 := nextcap_le (sLen + n) sCap hcap
        have h2 : Builtin.nextslicecap (sLen + n) sCap * by_ ≤ (2 * (sLen + n) + 192) * by_ := Nat.mul_le_mul_right by_ h1
        omega
      · subst h0
        have h1 : Builtin.nextslicecap (sLen + n) 0 = sLen + n := by unfold Builtin.nextslicecap; rw [if_pos (by omega)]
        rw [h1]; omega
    rw [if_neg hfit']
    refine (SemW.bind _ _ _ _).2 ⟨fun hq => (by cases hq), fun _ tape => ?_⟩
    have hge := appendCut_ge (sLen + n) sCap e tape
    have hnm : sLen + n ≤ 9223372036854775807 := by
      have hone : sLen + n ≤ (sLen + n) * by_ := Nat.le_mul_of_pos_right _ (Nat.pos_of_ne_zero hb0)
      rcases hfit with h | ⟨_, h⟩
      · have h5 : sLen + n ≤ (2 * (sLen + n) + 192) * by_ := Nat.le_trans hone (Nat.mul_le_mul_right by_ (by omega))
        omega
      · omega
    have hcl := appendCut_le (sLen + n) sCap e tape hnm
    generalize (Question.appendCap (sLen + n) sCap e).cut tape = cap at hge hcl
    change SemW P (typeInfo e >>= _) H K
    refine (SemW.bind _ _ _ _).2 (ht _ ?_)
    have room : ∀ (k : Nat) (s : Sem Value), SemW P s H K → SemW P (do askRoom k; s) H K := fun k s hs => by
      unfold askRoom
      split <;> exact hs
    refine room _ _ ?_
    refine (SemW.bind _ _ _ _).2 (semW_firstCells hold ?_)
    refine (SemW.bind _ _ _ _).2 ?_
    change SemW P (Builtin.firstCells sz n (.string (bstr l))) H _
    refine hfc _ ?_
    change SemW P (zeroValue e >>= _) H K
    refine (SemW.bind _ _ _ _).2 (semW_zero hz fun v hv => ?_)
    change SemW P (newRow e (⟨old⟩ ++ ⟨new⟩ ++ Builtin.zeroCells v.cells (cap - (sLen + n))) >>= _) H K
    refine (SemW.bind _ _ _ _).2 (semW_newRow fun m hm => ?_)
    have he : ((⟨old⟩ : Array Value) ++ ⟨new⟩ ++ Builtin.zeroCells v.cells (cap - (sLen + n))) = ⟨old ++ new ++ repL (cap - (sLen + n)) z⟩ := by
      rw [zeroCells_eq, hv]
      apply Array.ext'; simp
    rw [he]
    exact hout hcap m cap hm hge hcl

theorem own_appendS {P : Program} {st xt t e : TypeId} {H0 H : Heap} {a : Option Addr} {n cap k sz by_ : Nat} {xs new z : List Value} {l : List UInt8} {K : Value → Heap → Prop} {it : TypeInfo} {S : Nat → Prop}
    (hu : P.underlying st = some (.slice e)) (hx : P.underlying xt = some .string) (hi : P.info? e = some it) (hsz : it.size = sz) (hby : it.bytes = by_) (hb0 : by_ ≠ 0) (hz : zeroL P e = some z) (hzl : z.length = sz)
    (ho : Own H0 H a n cap sz e xs) (k0 : Keep S H0 H) (hkl : k = l.length) (hs1 : sz = 1) (hnew : new = bvl l) (hpl : ∀ v ∈ new, plainC v = true) (hfit : (2 * (n + k) + 192) * by_ ≤ 2 ^ 48)
    (h : ∀ a' cap' H', (cap ≤ 9223372036854775807 → cap' ≤ 9223372036854775807) → Own H0 H' a' (n + k) cap' sz e (xs ++ new) → (∀ b, a' = some ⟨b, 0, none⟩ → a = some ⟨b, 0, none⟩ ∨ H b = none) → Keep (fun b => a = some ⟨b, 0, none⟩) H H' → Keep S H0 H' → K (.slice a' (n + k) cap') H') :
    AppW P #[st, xt] t [.slice a n cap, .string (bstr l)] H K := by
  have hold := ho.reads
  have hmul : (n + k) * sz = n * sz + k * sz := Nat.add_mul _ _ _
  have hnl : new.length = k * sz := by rw [hnew, hkl, hs1]; simp [bvl]
  have hxl := ho.len
  refine AppW.introS (n := k) (sLen := n) (sCap := cap) (sz := sz) (by_ := by_) hu hx hi hsz hby hb0 hz hzl hold hkl hs1 hnew (.inl hfit) ?_ ?_
  · intro hle
    have ho2 := ho
    obtain ⟨hl, hc, hr⟩ := ho2
    rcases hr with ⟨rfl, rfl, rfl⟩ | ⟨m, rest, rfl, h0, hb, hr⟩
    · have hk : k = 0 := by omega
      subst hk
      have hn : new = [] := List.eq_nil_of_length_eq_zero (by simpa using hnl)
      subst hn
      have hx0 : xs = [] := List.eq_nil_of_length_eq_zero (by simpa using hl)
      subst hx0
      exact ⟨rfl, h none 0 H (fun _ => by omega) Own.nil (fun _ h => .inl h) (Keep.refl _ _) k0⟩
    · have hcap : cap * sz = n * sz + (cap - n) * sz := by rw [← Nat.add_mul, Nat.add_sub_cancel' hc]
      have hcap2 : (cap - n) * sz = k * sz + (cap - (n + k)) * sz := by rw [← Nat.add_mul]; congr 1; omega
      refine ⟨rfl, _, _, hb, by simp only [List.size_toArray, List.length_append]; omega, hpl, fun H' hb' hoth => ?_⟩
      have hrow : putRow (⟨xs ++ rest⟩ : Array Value) (0 + n * sz) new = ⟨(xs ++ new) ++ rest.drop (k * sz)⟩ := by
        apply Array.ext_getElem?
        intro j
        rw [putRow_get _ _ _ _ (by simp only [List.size_toArray, List.length_append]; omega)]
        simp only [List.getElem?_toArray]
        by_cases h1 : j < n * sz
        · rw [if_neg (by omega), List.getElem?_append_left (by omega), List.append_assoc, List.getElem?_append_left (by omega)]
        · by_cases h2 : j < n * sz + k * sz
          · rw [if_pos (by omega), List.append_assoc, List.getElem?_append_right (by omega), List.getElem?_append_left (by omega)]
            congr 1; omega
          · rw [if_neg (by omega), List.getElem?_append_right (by omega), List.getElem?_append_right (by simp only [List.length_append]; omega), List.getElem?_drop]
            congr 1; simp only [List.length_append]; omega
      rw [hrow] at hb'
      have kk : Keep (fun b => (some ⟨m, 0, none⟩ : Option Addr) = some ⟨b, 0, none⟩) H H' := ⟨fun b hb1 _ => hoth b fun e => hb1 (by rw [e]), fun b hb1 => by
        by_cases e : b = m
        · subst e; exact hb'.some
        · rw [hoth b e]; exact hb1⟩
      refine h _ _ _ (fun h => h) ⟨by simp only [List.length_append]; omega, hle, .inr ⟨m, _, rfl, h0, hb', by simp only [List.length_drop]; omega⟩⟩ (fun _ h => .inl h) kk (ho.then k0 kk)
  · intro hlt m cap' hm hcap' hcb
    have hrl : (repL (cap' - (n + k)) z).length = (cap' - (n + k)) * sz := by rw [repL_length, hzl]
    refine h _ _ _ (fun _ => hcb) ⟨by simp only [List.length_append]; omega, hcap', .inr ⟨m, _, rfl, k0.free hm, Blk.upd_eq, hrl⟩⟩ (fun b hb => .inr (by cases hb; exact hm)) ((Keep.refl _ _).new hm) (k0.new hm)

end Go.Sh
end

section
set_option linter.all false
namespace Go.Sh

theorem semW_seenAt {P : Program} {H : Heap} {b o : Nat} {T : TypeId} {c : Array Value} {K : Addr → Heap → Prop} (hb : Blk H b T c) (hk : K ⟨b, o, none⟩ H) : SemW P (Conv.seenAt ⟨b, o, none⟩) H K := by
  unfold Conv.seenAt
  refine (SemW.bind _ _ _ _).2 ?_
  show (∃ x, H b = some x) ∧ SemW P _ H _
  refine ⟨⟨_, hb⟩, ?_⟩
  rw [blk_shape hb]
  exact hk
theorem semW_toUnsafe {P : Program} {src dst t T : TypeId} {H : Heap} {b o n : Nat} {c : Array Value} {K : Value → Heap → Prop} (hs : P.underlying src = some (.pointer t)) (hd : P.underlying dst = some .unsafePointer) (ht : szOf P t = some (n + 1)) (hb : Blk H b T c) (ho : o < c.size)
    (hk : K (.pointer (some ⟨b, o, none⟩)) H) : SemW P (convert src dst (.pointer (some ⟨b, o, none⟩))) H K := by
  unfold convert
  refine (SemW.bind _ _ _ _).2 (semW_underlying hs ?_)
  refine (SemW.bind _ _ _ _).2 (semW_underlying hd ?_)
  show SemW P (Conv.unsafePointer src dst (.pointer (some ⟨b, o, none⟩))) H K
  unfold Conv.unsafePointer
  refine (SemW.bind _ _ _ _).2 (semW_underlying hs ?_)
  refine (SemW.bind _ _ _ _).2 (semW_underlying hd ?_)
  show SemW P (Conv.seenAt ⟨b, o, none⟩ >>= _) H K
  refine (SemW.bind _ _ _ _).2 (semW_seenAt hb ?_)
  refine (SemW.bind _ _ _ _).2 ?_
  show (∃ x, H b = some x) ∧ SemW P _ H _
  refine ⟨⟨_, hb⟩, ?_⟩
  rw [blk_shape hb]
  show SemW P (sizeOf t >>= _) H K
  refine (SemW.bind _ _ _ _).2 (semW_szOf ht ?_)
  have e : (decide (n + 1 = 0) || (decide (o ≥ c.size) && true)) = false := by
    rw [decide_eq_false (by omega), decide_eq_false (by omega)]; rfl
  show SemW P (if (decide (n + 1 = 0) || (decide (o ≥ c.size) && true)) = true then _ else _) H K
  rw [e, if_neg (by simp)]
  exact hk
theorem semW_fromUnsafe {P : Program} {src dst u T : TypeId} {H : Heap} {b o n : Nat} {c : Array Value} {K : Value → Heap → Prop} (hs : P.underlying src = some .unsafePointer) (hd : P.underlying dst = some (.pointer u)) (hu : szOf P u = some n) (hb : Blk H b T c) (hl : liesAt P P.depth T (c.size / P.cellsOf T) o u 1 = true)
    (hk : K (.pointer (some ⟨b, o, none⟩)) H) : SemW P (convert src dst (.pointer (some ⟨b, o, none⟩))) H K := by
  unfold convert
  refine (SemW.bind _ _ _ _).2 (semW_underlying hs ?_)
  refine (SemW.bind _ _ _ _).2 (semW_underlying hd ?_)
  show SemW P (Conv.unsafePointer src dst (.pointer (some ⟨b, o, none⟩))) H K
  unfold Conv.unsafePointer
  refine (SemW.bind _ _ _ _).2 (semW_underlying hs ?_)
  refine (SemW.bind _ _ _ _).2 (semW_underlying hd ?_)
  show SemW P (Conv.seenAt ⟨b, o, none⟩ >>= _) H K
  refine (SemW.bind _ _ _ _).2 (semW_seenAt hb ?_)
  refine (SemW.bind _ _ _ _).2 (semW_szOf hu ?_)
  refine (SemW.bind _ _ _ _).2 ?_
  show (∃ x, H b = some x) ∧ SemW P _ H _
  refine ⟨⟨_, hb⟩, ?_⟩
  rw [blk_shape hb]
  show SemW P (if (decide (n = 0) || liesAt P P.depth T (c.size / P.cellsOf T) o u 1) = true then _ else _) H K
  rw [hl, Bool.or_true, if_pos rfl]
  exact hk

end Go.Sh
end
