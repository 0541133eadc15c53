/-
  What the model itself answers for: slices.overlaps; rows grown by zeros.
-/
import Derived.Test.YthojhkhiamomnaaGreatSh16
set_option linter.unusedVariables false
set_option linter.unusedSimpArgs false
namespace Go.Sh

theorem semW_extern {P : Program} {f : FuncId} {fn : Func} {e : Array Value → Sem Value} {args : Array Value} {H : Heap} {K : Value → Heap → Prop} (hf : P.funcs[f]? = some fn) (hname : (fn.name == "runtime.NumGoroutine") = false) (hb : fn.body.isNone = true) (hn : Extern.findNext fn = none) (he : Extern.find fn = some e)
    (h : SemW P (e args) H K) : ExtW P f args H K := by
  unfold ExtW callFunc
  refine (SemW.bind _ _ _ _).2 ?_
  change SemW P (match P.funcs[f]? with | none => _ | some fn => _) H _
  rw [hf]
  change SemW P (if (fn.name == "runtime.NumGoroutine") = true then _ else if fn.body.isNone = true then _ else pure (Next.enter f args)) H _
  rw [if_neg (by rw [hname]; simp), if_pos hb]
  rw [hn, he]
  show SemW P (e args >>= fun v => pure (Next.value v)) H _
  exact (SemW.bind _ _ _ _).2 h

theorem blk_frozen {H : Heap} {b o : Nat} {T : TypeId} {c : Array Value} (h : Blk H b T c) : H.frozen ⟨b, o, none⟩ = false := by
  unfold Heap.frozen
  have h' : H.map b = some (.cells c T (0, 0)) := h
  simp only [h']
  simp
theorem blk_shape {H : Heap} {b : Nat} {T : TypeId} {c : Array Value} (h : Blk H b T c) : H.shape b = some (T, c.size) := by
  unfold Heap.shape
  have h' : H.map b = some (.cells c T (0, 0)) := h
  simp only [h']

theorem semW_overlaps {P : Program} {tS tR e : TypeId} {size : Nat} {H : Heap} {K : Value → Heap → Prop} (hu : P.underlying tS = some (.slice e)) (hsz : szOf P e = some size) {ab ao bb bo la ca lb cb : Nat} {TA TB : TypeId} {cA cB : Array Value}
    (hA : Blk H ab TA cA) (hB : Blk H bb TB cB) (hne : ab ≠ bb) (hk : K (.bool false) H) : SemW P (Extern.SlicesOverlaps.overlaps #[tS, tS] #[tR] #[.slice (some ⟨ab, ao, none⟩) la ca, .slice (some ⟨bb, bo, none⟩) lb cb]) H K := by
  show SemW P (underlying tS >>= _) H K
  refine (SemW.bind _ _ _ _).2 (semW_underlying hu ?_)
  show SemW P (sizeOf e >>= _) H K
  refine (SemW.bind _ _ _ _).2 (semW_szOf hsz ?_)
  show SemW P (if la = 0 ∨ lb = 0 ∨ size = 0 then pure (Value.bool false) else _) H K
  by_cases h0 : la = 0 ∨ lb = 0 ∨ size = 0
  · rw [if_pos h0]; exact hk
  · rw [if_neg h0]
    have hnb : (ab != bb) = true := by simpa using hne
    have hnb' : (ab == bb) = false := by simpa using hne
    refine ⟨⟨_, hA⟩, ?_⟩
    rw [blk_frozen hA]
    refine ⟨⟨_, hB⟩, ?_⟩
    rw [blk_frozen hB]
    show SemW P (if (((ab != bb) && false) && false) = true then _ else _) H K
    rw [if_neg (by simp)]
    show SemW P (if (ab != bb) = true then _ else _) H K
    rw [if_pos hnb]
    have view : ∀ {b : Nat} {o : Nat} {T : TypeId} {c : Array Value} (hb : Blk H b T c) {K' : Unit → Heap → Prop}, K' () H → SemW P (noView ⟨b, o, none⟩) H K' := fun {b o T c} hb {K'} hk' => by
      refine ⟨⟨_, hb⟩, ?_⟩
      rw [blk_shape hb]
      exact hk'
    refine (SemW.bind _ _ _ _).2 (view hA ?_)
    refine (SemW.bind _ _ _ _).2 (view hB ?_)
    refine (SemW.bind _ _ _ _).2 ?_
    show SemW P (mayBeOne _ _) H _
    have str : ∀ {b : Nat} {o : Nat} {T : TypeId} {c : Array Value} (hb : Blk H b T c) {K' : Bool → Heap → Prop}, K' false H → SemW P (stringish ⟨b, o, none⟩) H K' := fun {b o T c} hb {K'} hk' => by
      refine ⟨⟨_, hb⟩, ?_⟩
      rw [blk_frozen hb]
      refine ⟨⟨_, hb⟩, ?_⟩
      rw [blk_shape hb]
      refine ⟨⟨_, hb⟩, ?_⟩
      rw [blk_frozen hb]
      exact hk'
    refine (SemW.bind _ _ _ _).2 (str hA ?_)
    refine (SemW.bind _ _ _ _).2 (str hB ?_)
    refine ⟨⟨_, hA⟩, ?_⟩
    refine ⟨⟨_, hB⟩, ?_⟩
    show SemW P (pure (Value.bool ((ab == bb) && _ && _))) H K
    rw [hnb']
    exact hk

/-- append(s, make([]T, n)...), where there is no room: a new row. -/
theorem AppW.zerosGrow {P : Program} {st xt t e : TypeId} {base : Option Addr} {sLen sCap n by_ sz : Nat} {k : IntKind} {old z : List Value} {H : Heap} {K : Value → Heap → Prop} {it : TypeInfo}
    (hu : P.underlying st = some (.slice e)) (hx : P.underlying xt = some (.int k)) (hi : P.info? e = some it) (hsz : it.size = sz) (hby : it.bytes = by_) (hz : zeroL P e = some z) (hzl : z.length = sz) (hb0 : 0 < by_) (hb1 : by_ ≤ 100000) (hs0 : 0 < sz) (hn0 : 0 < n) (hn : sLen + n ≤ 100000000)
    (hold : Reads H base (sLen * sz) old) (hcap : sCap < sLen + n)
    (h : ∀ m cap, H m = none → sLen + n ≤ cap → cap ≤ 9223372036854775807 → K (.slice (some ⟨m, 0, none⟩) (sLen + n) cap) (H.upd m (.cells ⟨old ++ repL n z ++ repL (cap - (sLen + n)) z⟩ e))) :
    AppW P #[st, xt] t [.slice base sLen sCap, .int .i64 n] H K := by
  subst hsz hby
  unfold AppW Builtin.append_
  have hsize : szOf P e = some it.size := by unfold szOf; rw [hi]
  refine (SemW.bind _ _ _ _).2 (semW_underlying hu ?_)
  refine (SemW.bind _ _ _ _).2 (semW_szOf hsize ?_)
  have ht : ∀ (K' : TypeInfo → Heap → Prop), K' it H → SemW P (typeInfo e) H K' := fun K' hk => by
    unfold typeInfo
    refine (SemW.bind _ _ _ _).2 ?_
    change SemW P (match P.info? e with | some i => pure i | none => stuck "no such type") H K'
    rw [hi]; exact hk
  refine (SemW.bind _ _ _ _).2 ?_
  refine (SemW.bind _ _ _ _).2 ?_
  change SemW P (underlying xt) H _
  refine semW_underlying hx ?_
  have wn : IntKind.i64.wrap (n : Int) = n := wrap_id (by omega) (by omega)
  have hmul : n * it.bytes ≤ 100000000 * 100000 := Nat.mul_le_mul (by omega) hb1
  have hmulI : (n : Int) * (it.bytes : Int) = ((n * it.bytes : Nat) : Int) := by rw [Int.natCast_mul]
  have room : ∀ (k : Nat) (s : Sem Value), SemW P s H K → SemW P (do askRoom k; s) H K := fun k s hs => by
    unfold askRoom
    split <;> exact hs
  show SemW P (if IntKind.i64.wrap (n : Int) < 0 then _ else _) H _
  rw [wn, if_neg (by omega)]
  show SemW P (typeInfo e >>= _) H _
  refine (SemW.bind _ _ _ _).2 (ht _ ?_)
  show SemW P (if (n : Int) * (it.bytes : Int) > 2 ^ 48 then _ else _) H _
  rw [if_neg (by rw [hmulI]; omega)]
  show SemW P (if sLen + (n : Int).toNat ≤ sCap then _ else _) H K
  rw [if_neg (by omega)]
  have e0 : (n : Int).toNat = n := by omega
  rw [e0]
  show SemW P (typeInfo e >>= _) H K
  refine (SemW.bind _ _ _ _).2 (ht _ ?_)
  rw [if_neg (by
    have hm : IntKind.i64.max = 9223372036854775807 := rfl
    rw [hm]; omega)]
  show SemW P (typeInfo e >>= _) H K
  refine (SemW.bind _ _ _ _).2 (ht _ ?_)
  have hfit' : ¬ (Builtin.nextslicecap (sLen + n) sCap * it.bytes > 2 ^ 48) := by
    have h1 := nextcap_le (sLen + n) sCap hcap
    have h2 : Builtin.nextslicecap (sLen + n) sCap * it.bytes ≤ (2 * (sLen + n) + 192) * 100000 := Nat.mul_le_mul h1 hb1
    omega
  rw [if_neg hfit']
  show SemW P (choose (.appendCap (sLen + n) sCap e) >>= _) H K
  refine (SemW.bind _ _ _ _).2 ⟨fun hq => (by cases hq), fun _ tape => ?_⟩
  have hge := appendCut_ge (sLen + n) sCap e tape
  have hle := appendCut_le (sLen + n) sCap e tape (by omega)
  generalize (Question.appendCap (sLen + n) sCap e).cut tape = cap at hge hle
  show SemW P (typeInfo e >>= _) H K
  refine (SemW.bind _ _ _ _).2 (ht _ ?_)
  refine room _ _ ?_
  refine (SemW.bind _ _ _ _).2 (semW_firstCells hold ?_)
  show SemW P ((if n * it.size = 0 then pure #[] else do pure (Builtin.zeroCells (← zeroValue e).cells n)) >>= _) H K
  rw [if_neg (by
    have : 0 < n * it.size := Nat.mul_pos hn0 hs0
    omega)]
  refine (SemW.bind _ _ _ _).2 ?_
  refine (SemW.bind _ _ _ _).2 (semW_zero hz fun v hv => ?_)
  show SemW P (zeroValue e >>= _) H K
  refine (SemW.bind _ _ _ _).2 (semW_zero hz fun v' hv' => ?_)
  show SemW P (newRow e (⟨old⟩ ++ Builtin.zeroCells v.cells n ++ Builtin.zeroCells v'.cells (cap - (sLen + n))) >>= _) H K
  refine (SemW.bind _ _ _ _).2 (semW_newRow fun m hm => ?_)
  have he : ((⟨old⟩ : Array Value) ++ Builtin.zeroCells v.cells n ++ Builtin.zeroCells v'.cells (cap - (sLen + n))) = ⟨old ++ repL n z ++ repL (cap - (sLen + n)) z⟩ := by
    rw [zeroCells_eq, zeroCells_eq, hv, hv']
    apply Array.ext'; simp
  rw [he]
  exact h m cap hm hge hle

end Go.Sh
