/-
  The keys of a map, in order: slices.Sorted(maps.Keys(m)).
-/
import Derived.Test.YtcdjiihnkinpcaaGreatItsK
import Derived.Test.YtcdjiihnkinpcaaGreatItsN
import Derived.Test.YtcdjiihnkinpcaaGreatShK
import Derived.Test.YtcdjiihnkinpcaaGreatShP
set_option linter.all false
set_option maxRecDepth 100000
namespace Go.Proofs.YtcdjiihnkinpcaaGreat
open Go.Sh Go.Pc

theorem keys_cell {H : Heap} {b : Nat} {T : TypeId} {v : Value} (h : Blk H b T ⟨[v]⟩) : H.cell ⟨b, 0, none⟩ = some v := by rw [h.cell]; rfl
theorem int_info : ∃ it, Tryz.prog.info? T_int = some it ∧ it.size = 1 ∧ it.bytes = 8 := by
  have h : (Tryz.prog.info? T_int).map (fun i => (i.size, i.bytes)) = some (1, 8) := by kernel_rfl
  cases hi : Tryz.prog.info? T_int with
  | none => rw [hi] at h; cases h
  | some it =>
    rw [hi] at h
    simp only [Option.map_some, Option.some.injEq, Prod.mk.injEq] at h
    exact ⟨it, rfl, h.1, h.2⟩
/-- One more number at a row's end. -/
theorem app_round {Hs H : Heap} {bx n cap : Nat} {a : Option Addr} {xs : List Value} {k : Int} {K : Heap → Prop} {R : Value → Heap → Prop} (k0 : Keep Nil Hs H) (hx : Hs bx = none) (hB : Blk H bx T_sl_int ⟨[.slice a n cap]⟩) (hO : Sh.Own Hs H a n cap 1 T_int xs) (hn : n ≤ 1000000)
    (hk : ∀ H3, Keep Nil Hs H3 → (∀ b, H b ≠ none → b ≠ bx → (∀ T c, ¬ Blk H b T c) → H3 b = H b) → (∃ a' cap', Blk H3 bx T_sl_int ⟨[.slice a' (n + 1 : Nat) cap']⟩ ∧ Sh.Own Hs H3 a' (n + 1) cap' 1 T_int (xs ++ [.int .i64 k])) → K H3) :
    slices_AppendSeqasl_int_int_r_p bx k H K R := by
  refine ⟨a, n, cap, keys_cell hB, ?_⟩
  intro q hq
  have hqb : q ≠ bx := fun e => by subst e; exact hB.some hq
  have kq : Keep Nil H (H.upd q (.cells ⟨[.int .i64 k]⟩ T_int (0, 0))) := (Keep.refl _ _).new hq
  have hBq : Blk (H.upd q (.cells ⟨[.int .i64 k]⟩ T_int (0, 0))) q T_int ⟨[.int .i64 k]⟩ := upd_eq
  have hne : ∀ b, b ≠ q → (H.upd q (.cells ⟨[.int .i64 k]⟩ T_int (0, 0))) b = H b := fun b hb => upd_ne hb
  generalize H.upd q (.cells ⟨[.int .i64 k]⟩ T_int (0, 0)) = H1 at kq hBq hne ⊢
  have hO1 : Sh.Own Hs H1 a n cap 1 T_int xs := hO.keep kq fun _ _ h => h
  obtain ⟨it, hit, hsz, hby⟩ := int_info
  refine own_append2 (S := Nil) Tryz.underlying29 Tryz.underlying29 hit hsz hby (by decide) (z := [.int .i64 0]) (by kernel_rfl) rfl hO1 (k0.trans kq) (new := [.int .i64 k]) (Reads.blk hBq rfl fun j hj => ?_) (fun v hv => ?_) (by omega) fun a' cap' H2 _ h1 hnew h2 h3 => ?_
  · rw [Nat.zero_add]; simp
  · simp only [List.mem_singleton] at hv; subst hv; rfl
  refine ⟨a', n + 1, cap', rfl, ?_⟩
  have hab : a ≠ some ⟨bx, 0, none⟩ := fun e => by
    obtain ⟨c, hc⟩ := hO.live e
    have : (Obj.cells c T_int (0, 0)) = .cells ⟨[.slice a n cap]⟩ T_sl_int (0, 0) := Option.some.inj (hc.symm.trans hB)
    injection this with _ h _
    exact absurd h (by decide)
  have hB2 : Blk H2 bx T_sl_int ⟨[.slice a n cap]⟩ := h2.blk (kq.blk hB fun h => h) hab
  refine StCell.blk hB2 (by simp) rfl ?_
  have hB3 : Blk (H2.upd bx (.cells ⟨[.slice a' (n + 1 : Nat) cap']⟩ T_sl_int (0, 0))) bx T_sl_int ⟨[.slice a' (n + 1 : Nat) cap']⟩ := upd_eq
  refine hk _ (h3.then (S' := fun b => b = bx) ⟨fun b hb _ => upd_ne hb, fun b hb => ?_⟩ fun b e => .inr (by rw [e]; exact hx)) (fun b hb hbb hnb => ?_) ⟨a', cap', hB3, ?_⟩
  · by_cases e : b = bx
    · subst e; show (H2.upd b _) b ≠ none; rw [upd_eq]; simp
    · show (H2.upd bx _) b ≠ none
      rw [upd_ne e]; exact hb
  · show (H2.upd bx _) b = _
    rw [upd_ne hbb, h2.same b (fun e => ?_) (kq.live b hb), hne b fun e => hb (by rw [e]; exact hq)]
    obtain ⟨c, hc⟩ := hO.live e
    exact hnb _ _ hc
  · refine h1.keep (S := fun b => b = bx) ⟨fun b hb _ => upd_ne hb, fun b hb => ?_⟩ fun b e hbx => ?_
    · by_cases e : b = bx
      · subst e; show (H2.upd b _) b ≠ none; rw [upd_eq]; simp
      · show (H2.upd bx _) b ≠ none
        rw [upd_ne e]; exact hb
    · subst hbx
      rcases hnew b e with h | h
      · exact hab h
      · exact (kq.live b hB.some) h

def ivs (l : List Int) : List Value := l.map (Value.int .i64)
/-- What slices.AppendSeq makes of a map's keys. -/
def KeysOf (H : Heap) (ks : List Int) (v : Value) (H' : Heap) : Prop := ∃ (a : Option Addr) (cap : Nat) (xs : List Int), v = .slice a xs.length cap ∧ Keep Nil H H' ∧ xs.Perm ks ∧ Sh.Own H H' a xs.length cap 1 T_int (ivs xs)
theorem KeysOf.shut {H H' H2 : Heap} {ks : List Int} {v : Value} (h : KeysOf H ks v H') (hs : Shut H H' H2) : KeysOf H ks v H2 := by
  obtain ⟨a, cap, xs, h1, h2, h3, h4⟩ := h
  exact ⟨a, cap, xs, h1, shutK h2 hs, h3, shutO h4 hs⟩
theorem own_int {zs : List Int} : ∀ e : Int, ivs zs ++ [.int .i64 e] = ivs (zs ++ [e]) := fun e => by simp [ivs]

/-- What holds at the head of the loop over the map. -/
structure KInv (H0 : Heap) (sb l itb mb : Nat) (rec : Loop) (es : List MapEntry) (ck : Nat) (f : MapEntry → Int) (seen : List MapEntry) (H : Heap) : Prop where
  it : H itb = some (.mapIter (some mb) ck ⟨seen.map (·.born)⟩ ck)
  mp : H mb = some (.map ⟨es⟩ ck)
  lp : H l = some (.loop rec)
  row : ∃ a cap, Blk H sb T_sl_int ⟨[.slice a seen.length cap]⟩ ∧ Sh.Own H0 H a seen.length cap 1 T_int (ivs (seen.map f))
  keep : Keep Nil H0 H
  sub : ∀ e ∈ seen, e ∈ es
  nd : (seen.map (·.born)).Nodup
theorem nodup_sub {es : List MapEntry} : ∀ {seen : List MapEntry}, (∀ e ∈ seen, e ∈ es) → (seen.map (·.born)).Nodup → seen.length ≤ es.length := by
  intro seen hs hn
  have hn2 : seen.Nodup := by
    induction seen with
    | nil => exact List.nodup_nil
    | cons x r ih =>
      simp only [List.map_cons, List.nodup_cons, List.mem_map, not_exists, not_and] at hn
      exact List.nodup_cons.2 ⟨fun h => hn.1 x h rfl, ih (fun e he => hs e (List.mem_cons_of_mem _ he)) hn.2⟩
  exact hn2.length_le_of_subset fun e he => hs e he
theorem perm_of {es : List MapEntry} {seen : List MapEntry} (hd : (es.map (·.born)).Nodup) (hs : ∀ e ∈ seen, e ∈ es) (hn : (seen.map (·.born)).Nodup) (hall : ∀ e ∈ es, e.born ∈ seen.map (·.born)) : seen.Perm es := by
  have inj : ∀ {l : List MapEntry}, (l.map (·.born)).Nodup → ∀ x ∈ l, ∀ y ∈ l, x.born = y.born → x = y := by
    intro l
    induction l with
    | nil => intro _ x hx; cases hx
    | cons z r ih =>
      intro h x hx y hy e
      simp only [List.map_cons, List.nodup_cons, List.mem_map, not_exists, not_and] at h
      rcases List.mem_cons.1 hx with e1 | hx1 <;> rcases List.mem_cons.1 hy with e2 | hy1
      · rw [e1, e2]
      · rw [e1] at e; exact absurd e.symm (h.1 y hy1)
      · rw [e2] at e; exact absurd e (h.1 x hx1)
      · exact ih h.2 x hx1 y hy1 e
  have nd : ∀ {l : List MapEntry}, (l.map (·.born)).Nodup → l.Nodup := by
    intro l
    induction l with
    | nil => intro _; exact List.nodup_nil
    | cons z r ih =>
      intro h
      simp only [List.map_cons, List.nodup_cons, List.mem_map, not_exists, not_and] at h
      exact List.nodup_cons.2 ⟨fun hm => h.1 z hm rfl, ih h.2⟩
  refine (List.perm_ext_iff_of_nodup (nd hn) (nd hd)).2 fun e => ⟨hs e, fun he => ?_⟩
  obtain ⟨x, hx, hxe⟩ := List.mem_map.1 (hall e he)
  rw [← inj hd x (hs x hx) e he hxe]; exact hx
end Go.Proofs.YtcdjiihnkinpcaaGreat
