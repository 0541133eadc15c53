/-
  From the condition on a law's call to the row: 'it returns true, and what was there stays'.
-/
import Derived.Test.YthojhkhiamomnaaGreatSh13
import Derived.ProofKit
import Derived.WideKeyArgs
import Derived.Handed
import Derived.ChangeSlices
namespace Go.Sh
open Go.ChangeShapes Go.WideShapes Go.ChangeAt Go.RowKit

theorem Keep.below {W W' : World} (h : Keep Nil (hp W) (hp W')) (r : Rest W W') : Below W.heap.size W W' := by
  refine ⟨r.os, r.tape, r.output, ?_, fun k hk => h.same k (fun x => x) ?_⟩
  · cases hs : W.heap.size with
    | zero => omega
    | succ n =>
      have hlive := h.live n (by change W.heap[n]? ≠ none; rw [Array.getElem?_eq_getElem (by omega)]; simp)
      have : n < W'.heap.size := by
        apply Classical.byContradiction
        intro hn
        exact hlive (Array.getElem?_eq_none (by omega))
      omega
  · change W.heap[k]? ≠ none
    rw [Array.getElem?_eq_getElem hk]; simp

theorem trodAll_stays {H : Type} {enc : TypeId × Value → H} {P : Program} (hl : laidOutB P = true) {W W' : World} {sp : Nat → Bool} : ∀ {ts : List TypeId} {vs : List Value} {ds : List (DataW H)} {ps : List MemPlace},
    ts.all (fun t => P.readableRec t && decide (t < P.types.size)) = true → DataW.TrodAll enc P W 0 (fun _ => true) true ts vs ds ps → (∀ p ∈ ps, W.sameAt W' p) → (∀ p ∈ ps, sp p.block = true) →
    DataW.TrodAll enc P W' 0 sp true ts vs ds ps := by
  intro ts
  induction ts with
  | nil =>
    intro vs ds ps _ h _ _
    cases vs <;> cases ds <;> first | exact h | exact h.elim
  | cons t ts ih =>
    intro vs ds ps ha h hs hp
    obtain ⟨v, vs', d, ds', p, q, rfl, rfl, rfl, h1, h2⟩ := trodAll_cons h
    simp only [List.all_cons, Bool.and_eq_true, decide_eq_true_eq] at ha
    exact ⟨p, q, WideElems.Trod_stays hl ha.1.1 ha.1.2 h1 (fun x hx => hs x (List.mem_append_left _ hx)) (fun x hx => hp x (List.mem_append_left _ hx)),
      ih (by simpa using ha.2) h2 (fun x hx => hs x (List.mem_append_right _ hx)) (fun x hx => hp x (List.mem_append_right _ hx)), rfl⟩

/-- What a law's row asks behind the call. -/
theorem post_true {H : Type} {enc : TypeId × Value → H} {P : Program} {f : Func} {s : ChangeSpec} {apart fresh handsOn : Bool} {W W' : World} {args : Array Value} {ds gs : List (DataW H)} {before : List MemPlace} {tb : TypeId}
    (hl : laidOutB P = true) (hpar : f.params.toList.all (fun t => P.readableRec t && decide (t < P.types.size)) = true) (hv : s.vars = []) (hrt : f.resultTypes = #[tb]) (htb : P.underlying tb = some .bool)
    (hW : DataW.Whole enc P f.params.toList s.vars apart W args.toList ds gs before)
    (hs : s.fn H (ds ++ gs) = { results := [.lit (.bool true)], args := ds }) (hb : Below W.heap.size W W') : s.post enc P f apart fresh handsOn false W args (.bool true) W' := by
  have hlt := hW.lt
  have hW' := hW
  obtain ⟨p, q, hA, hV, rfl, _, _⟩ := hW'
  have hV' := hV
  rw [hv] at hV'
  obtain ⟨rfl, rfl⟩ := trodVars_none hV'
  rw [List.append_nil] at hlt hW
  refine ⟨ds, [], p, [], p, [], hW, ?_, ?_, ?_, ?_, fun h => by cases h⟩
  · rw [hs, hrt]
    exact trodAll_mk1 (shut_bool htb true)
  · rw [hs]
    exact trodAll_stays hl hpar hA (fun x hx => hb.same (hlt x hx)) (fun x hx => by simpa using hlt x hx)
  · rw [hs, hv]; rfl
  · exact World.keptBut_mono (fun x hx => ⟨hx, .inr (.inl hx)⟩) (hb.frame (· ∈ p))

/-- The row, from the condition on the call. -/
theorem lifted {C : Checked} {os : Os} {f : FuncId} {fn : Func} {s : ChangeSpec} {conds : List PathCond} {apart fresh handsOn : Bool} {H : Type} {enc : TypeId × Value → H} {tb : TypeId}
    (own : ownKnob C.prog.godebug = none) (started : os.Started) (noInit : C.prog.inits.idxOf? f = none) (hfn : C.prog.funcs[f]? = some fn)
    (witness : ∃ (w : World) (tape : Tape) (i : Input), w.os = os ∧ (w.forCall tape i).Shaped C.prog ∧ i.vars = [] ∧ Input.okWide C.prog (w.forCall tape i) .any w.heap.size f i ∧
      s.pre6 enc C.prog fn conds apart (w.forCall tape i).memory i.args ∧ Assume.holds {} C.prog (lone (Frame.enter C.prog f i.args .normal) [] (w.forCall tape i)))
    (hl : laidOutB C.prog = true) (hpar : fn.params.toList.all (fun t => C.prog.readableRec t && decide (t < C.prog.types.size)) = true) (hv : s.vars = []) (hrt : fn.resultTypes = #[tb]) (htb : C.prog.underlying tb = some .bool)
    (walk : ∀ (W : World) (base : Nat) (args : Array Value) (ds : List (DataW H)) (p : List MemPlace), (∀ (j : Nat) t v, fn.params[j]? = some t → args[j]? = some v → Value.okWide C.prog W .any base t v) →
      DataW.TrodAll enc C.prog W 0 (fun _ => true) true fn.params.toList args.toList ds p → s.fn H ds = { results := [.lit (.bool true)], args := ds } ∧
      FnW C.prog f args (hp W) fun v H' => v = .bool true ∧ Keep Nil (hp W) H') :
    ReturnsInHanded {} C os f .any (s.pre6 enc C.prog fn conds apart) (s.post enc C.prog fn apart fresh handsOn false) := by
  refine returnsInHanded_of_change own started noInit hfn witness ?_
  intro W base args ds gs before hval hW _ _
  have hW' := hW
  obtain ⟨p, q, hA, hV, rfl, _, _⟩ := hW'
  have hV' := hV
  rw [hv] at hV'
  obtain ⟨rfl, rfl⟩ := trodVars_none hV'
  obtain ⟨hs, hf⟩ := walk W base args ds p hval hA
  refine (hf.2 W rfl).mono fun e W' ⟨v, he, ⟨hv', hk⟩, hr⟩ => ?_
  subst hv'
  exact ⟨_, he, post_true hl hpar hv hrt htb hW (by rw [List.append_nil]; exact hs) (hk.below hr)⟩

theorem cell_spot {H : Heap} {a : Addr} {v : Value} (h : H.cell a = some v) : a.spot = none ∧ ∃ c T fr, H a.block = some (.cells c T fr) ∧ c[a.off]? = some v := by
  unfold Heap.cell at h
  split at h
  · rename_i c T fr hb
    cases hs : a.spot with
    | none => rw [hs] at h; exact ⟨rfl, c, T, fr, hb, h⟩
    | some x => rw [hs] at h; cases h
  · cases h

/-- A slice of bytes, out of its cells. -/
theorem trod_bytes {H : Type} {enc : TypeId × Value → H} {P : Program} {W : World} {t e : TypeId} {fuel : Nat} {cs : List Value} {x : DataW H × List MemPlace} (ht : P.underlying t = some (.slice e)) (he : P.underlying e = some (.int .u8)) (hc : P.cellsOf e = 1)
    (h : DataW.trod enc P W 0 (fun _ => true) true fuel t cs = some x) :
    ∃ (a : Option Addr) (n c : Nat) (bs : List UInt8), cs = [.slice a n c] ∧ n ≤ c ∧ c ≤ maxLen ∧ Reads (hp W) a n (bs.map fun x => .int .u8 x.toNat) := by
  rcases open_ints ht he hc h with ⟨h1, _⟩ | ⟨a, n0, c0, zs, h1, _, hlc, hcm, hz, _, hcell, hwf⟩
  · exact ⟨none, 0, 0, [], h1, Nat.le_refl _, Nat.zero_le _, Reads.nil⟩
  · simp only [if_true] at hz
    refine ⟨_, _, _, (zs.take n0).map fun z => UInt8.ofNat z.toNat, h1, hlc, hcm, ?_, fun h0 => ?_⟩
    · simp; omega
    · obtain ⟨hsp, _⟩ := cell_spot (H := hp W) (hcell 0 (by omega))
      refine ⟨by simpa [Addr.add] using hsp, ?_⟩
      replace hsp : a.spot = none := by simpa [Addr.add] using hsp
      have hcell' : ∀ i, i < zs.length → (hp W).cell ⟨a.block, a.off + i, Option.none⟩ = some (.int .u8 (zs.getD i 0)) := fun i hi => by
        rw [← add_of_spot hsp, hp_cell]; exact hcell i hi
      obtain ⟨_, c, T, fr, hb, _⟩ := cell_spot (hcell' 0 (by omega))
      refine ⟨c, T, fr, hb, fun j hj => ?_⟩
      obtain ⟨_, c', T', fr', hb', hj'⟩ := cell_spot (hcell' j (by omega))
      rw [hb] at hb'
      cases hb'
      change c[a.off + j]? = _ at hj'
      rw [hj']
      have hlen : j < zs.length := by omega
      have hw := hwf zs[j] (List.getElem_mem hlen)
      have hr : 0 ≤ zs[j] ∧ zs[j] < 256 := by
        have hm : IntKind.u8.min = 0 := rfl
        have hM : IntKind.u8.max = 255 := rfl
        simp [Lit.wf, hm, hM] at hw
        omega
      have e1 : zs.getD j 0 = zs[j] := by simp [hlen]
      rw [e1]
      rw [List.getElem?_map, List.getElem?_map, List.getElem?_take_of_lt hj, List.getElem?_eq_getElem hlen]
      simp only [Option.map_some]
      congr 2
      simp only [UInt8.toNat_ofNat']
      omega

/-- A slice of bytes that is handed in. -/
theorem open_bytes {H : Type} {enc : TypeId × Value → H} {P : Program} {W : World} {t e : TypeId} {base : Nat} {v : Value} {d : DataW H} {ps : List MemPlace} (ht : P.underlying t = some (.slice e)) (he : P.underlying e = some (.int .u8)) (hc : P.cellsOf e = 1)
    (hval : Value.okWide P W .any base t v) (h : DataW.Trod enc P W 0 (fun _ => true) true t v d ps) :
    ∃ (a : Option Addr) (n c : Nat) (bs : List UInt8), v = .slice a n c ∧ n ≤ c ∧ c ≤ maxLen ∧ Reads (hp W) a n (bs.map fun x => .int .u8 x.toNat) := by
  obtain ⟨a0, n0, c0, rfl⟩ := okWide_slice ht hval
  obtain ⟨fuel, h⟩ := h
  obtain ⟨a, n, c, bs, h1, h2, h3, h4⟩ := trod_bytes ht he hc h
  simp only [Value.cells, List.cons.injEq, and_true] at h1
  cases h1
  exact ⟨_, _, _, bs, rfl, h2, h3, h4⟩

/-- A slice of numbers that is handed in. -/
theorem open_i64s {H : Type} {enc : TypeId × Value → H} {P : Program} {W : World} {t e : TypeId} {base : Nat} {v : Value} {d : DataW H} {ps : List MemPlace} (ht : P.underlying t = some (.slice e)) (he : P.underlying e = some (.int .i64)) (hc : P.cellsOf e = 1)
    (hval : Value.okWide P W .any base t v) (h : DataW.Trod enc P W 0 (fun _ => true) true t v d ps) :
    ∃ (a : Option Addr) (n c : Nat), v = .slice a n c ∧ n ≤ c ∧ c ≤ maxLen ∧ ∀ i, i < n → ∃ b o, a = some ⟨b, o, none⟩ ∧ ∃ z : Int, (hp W).cell ⟨b, o + i, none⟩ = some (.int .i64 z) ∧ (Lit.int .i64 z).wf = true := by
  obtain ⟨a0, n0, c0, rfl⟩ := okWide_slice ht hval
  obtain ⟨fuel, h⟩ := h
  rcases open_ints ht he hc h with ⟨h1, _⟩ | ⟨a, len, cap, zs, h1, _, hlc, hcm, hz, _, hcell, hwf⟩
  · simp only [Value.cells, List.cons.injEq, and_true] at h1
    cases h1
    exact ⟨_, _, _, rfl, Nat.le_refl _, Nat.zero_le _, fun i hi => by omega⟩
  · simp only [Value.cells, List.cons.injEq, and_true] at h1
    cases h1
    simp only [if_true] at hz
    refine ⟨_, _, _, rfl, hlc, hcm, fun i hi => ?_⟩
    have hi' : i < zs.length := by omega
    obtain ⟨hsp, _⟩ := cell_spot (H := hp W) (hcell 0 (by omega))
    obtain ⟨b, o, sp⟩ := a
    replace hsp : sp = none := by simpa [Addr.add] using hsp
    subst hsp
    refine ⟨b, o, rfl, zs.getD i 0, ?_, ?_⟩
    · rw [hp_cell, ← hcell i hi', add_of_spot rfl]
    · have e1 : zs.getD i 0 = zs[i] := by simp [hi']
      rw [e1]; exact hwf _ (List.getElem_mem hi')

theorem take_one {l : List Value} {o : Nat} {v : Value} (h : (l.drop o).take 1 = [v]) : l[o]? = some v := by
  have : ((l.drop o).take 1)[0]? = some v := by rw [h]; rfl
  rw [List.getElem?_take_of_lt (by omega), List.getElem?_drop] at this
  exact this

/-- A struct of two numbers that is handed in. -/
theorem open_pair {H : Type} {enc : TypeId × Value → H} {P : Program} {W : World} {t e0 e1 : TypeId} {f0 f1 : Field} {base : Nat} {v : Value} {d : DataW H} {ps : List MemPlace} (ht : P.underlying t = some (.struct #[f0, f1])) (ho0 : f0.offset = 0) (ho1 : f1.offset = 1)
    (ht0 : f0.type = e0) (ht1 : f1.type = e1) (he0 : P.underlying e0 = some (.int .i64)) (he1 : P.underlying e1 = some (.int .i64)) (hc0 : P.cellsOf e0 = 1) (hc1 : P.cellsOf e1 = 1) (hc : P.cellsOf t = 2)
    (hval : Value.okWide P W .any base t v) (h : DataW.Trod enc P W 0 (fun _ => true) true t v d ps) :
    ∃ (a b : Int), v = .agg ⟨[.int .i64 a, .int .i64 b]⟩ ∧ (Lit.int .i64 a).wf = true ∧ (Lit.int .i64 b).wf = true := by
  obtain ⟨cs, rfl, hs⟩ := okWide_struct ht hval
  obtain ⟨fuel, h⟩ := h
  obtain ⟨y0, y1, n, _, hl, h0, h1⟩ := trod_struct2 ht h
  rw [ho0, ht0, hc0] at h0
  rw [ho1, ht1, hc1] at h1
  obtain ⟨a, ha, _, wa⟩ := DataW.trod_int he0 h0
  obtain ⟨b, hb, _, wb⟩ := DataW.trod_int he1 h1
  refine ⟨a, b, ?_, wa, wb⟩
  obtain ⟨l⟩ := cs
  rw [hc] at hs
  simp only [Value.cells] at ha hb
  rcases l with _ | ⟨x, _ | ⟨y, _ | ⟨z, l⟩⟩⟩ <;> simp at hs
  simp at ha hb
  rw [ha, hb]

end Go.Sh
