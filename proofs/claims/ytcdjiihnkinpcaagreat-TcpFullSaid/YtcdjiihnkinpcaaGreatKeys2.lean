/-
  The keys of a map, in order: the loop over the map.
-/
import Derived.Test.YtcdjiihnkinpcaaGreatKeys
set_option linter.all false
set_option maxRecDepth 100000
namespace Go.Proofs.YtcdjiihnkinpcaaGreat
open Go.Sh Go.Pc

abbrev fKeys : FuncId := f_maps_Keysamapaint_p_tcp_one_int_p_tcp_one_1
theorem again {rec : Loop} (hst : rec.state = .ready) (hpe : rec.pending = none) : { ({ rec with state := .busy } : Loop) with state := .ready, pending := none } = rec := by
  cases rec
  simp only at hst hpe
  subst hst hpe
  rfl
theorem blk_ne {H : Heap} {b c : Nat} {T : TypeId} {cs : Array Value} {o : Obj} (h : Blk H b T cs) (hc : H c = some o) (ho : ∀ x y z, o ≠ .cells x y z) : b ≠ c := fun e => by
  subst e
  unfold Blk at h
  rw [h] at hc
  exact ho _ _ _ (Option.some.inj hc).symm
theorem own_upd {H0 H : Heap} {a : Option Addr} {n cap sz : Nat} {T : TypeId} {xs : List Value} {q : Nat} {o : Obj} (h : Sh.Own H0 H a n cap sz T xs) (hq : ∀ c, ¬ Blk H q T c) : Sh.Own H0 (H.upd q o) a n cap sz T xs := by
  obtain ⟨h1, h2, h3⟩ := h
  refine ⟨h1, h2, ?_⟩
  rcases h3 with h | ⟨m, rest, e, h0, hb, hr⟩
  · exact .inl h
  · exact .inr ⟨m, rest, e, h0, hb.same (upd_ne fun e => by subst e; exact hq _ hb), hr⟩
theorem not_blk {H : Heap} {q : Nat} {o : Obj} (hc : H q = some o) (ho : ∀ x y z, o ≠ .cells x y z) (T : TypeId) (c : Array Value) : ¬ Blk H q T c := fun h => by
  unfold Blk at h
  rw [h] at hc
  exact ho _ _ _ (Option.some.inj hc).symm
set_option maxHeartbeats 1000000
theorem keys_appendSeq {H : Heap} {bx bo mb ck : Nat} {es : List MapEntry} {ks : List Int} {f : MapEntry → Int} (hbx : H.cell ⟨bx, bo, none⟩ = some (.map (some mb))) (hm : H mb = some (.map ⟨es⟩ ck)) (hb : ∀ e ∈ es, e.born < ck) (hd : (es.map (·.born)).Nodup)
    (hks : ∀ e ∈ es, e.key = .int .i64 (f e)) (hke : ks = es.map f) (hl : es.length ≤ 1000000) :
    FnW Tryz.prog f_slices_AppendSeqasl_int_int ⟨[.slice none 0 0, .func (.func fKeys) #[] ⟨[.pointer (some ⟨bx, bo, none⟩)]⟩]⟩ H (KeysOf H ks) := by
  generalize hfn : Value.func (.func fKeys) #[] ⟨[.pointer (some ⟨bx, bo, none⟩)]⟩ = fnv
  refine FnW.of_code hk_slices_AppendSeqasl_int_int (by kernel_rfl) ?_
  generalize hR : (fun v H' => ∀ H'', Shut H H' H'' → KeysOf H ks v H'') = R
  have done : ∀ v H', KeysOf H ks v H' → R v H' := fun v H' hv => by rw [← hR]; exact fun H2 hs => hv.shut hs
  have e : bodyOf Tryz.f171 = .seq (cL (bodyOf Tryz.f171)) (.seq (.seq (cL (cL (cR (bodyOf Tryz.f171)))) (.block 0 (.rangeFunc (.tmp 6) #[7] (cA (cK (cR (cL (cR (bodyOf Tryz.f171)))))) (cB (cK (cR (cL (cR (bodyOf Tryz.f171))))))))) (cR (cR (bodyOf Tryz.f171)))) := by kernel_rfl
  rw [e]
  refine seq_piece (K := fun ρ' H' => ∃ sb, ρ' 1 = fnv ∧ ρ' 2 = .pointer (some ⟨sb, 0, none⟩) ∧ H sb = none ∧ Keep Nil H H' ∧ Blk H' sb T_sl_int ⟨[.slice none 0 0]⟩) ?_ ?_
  · have h1 := slices_AppendSeqasl_int_int_a_heq (env0 [.slice none 0 0, fnv]) none 0 0 fnv H (fun v1 v2 H' => ∃ sb, v1 = fnv ∧ v2 = .pointer (some ⟨sb, 0, none⟩) ∧ H sb = none ∧ Keep Nil H H' ∧ Blk H' sb T_sl_int ⟨[.slice none 0 0]⟩) R
    rw [put2 (ρ := env0 [.slice none 0 0, fnv]) (d1 := 0) (v1 := .slice none 0 0) (d2 := 1) (v2 := fnv) rfl rfl] at h1
    exact Eq.mp h1 fun q hq => ⟨q, rfl, rfl, hq, (Keep.refl _ _).new hq, upd_eq⟩
  rintro ρ1 H1 ⟨sb, e1, e2, hsb, k1, hB1⟩
  refine seq_piece (K := fun ρ' H' => ρ' 2 = .pointer (some ⟨sb, 0, none⟩) ∧ ∃ a cap xs, Blk H' sb T_sl_int ⟨[.slice a xs.length cap]⟩ ∧ Keep Nil H H' ∧ xs.Perm ks ∧ Sh.Own H H' a xs.length cap 1 T_int (ivs xs)) ?_ ?_
  rotate_left
  · rintro ρ2 H2 ⟨f2, a, cap, xs, hB, k2, hp, ho⟩
    have h4 := slices_AppendSeqasl_int_int_z_heq ρ2 sb H2 (fun _ => False) R
    rw [put_same f2] at h4
    refine CodeW.mono _ (fun e ρ' H' he => ?_) _ _ (Eq.mp h4 ⟨a, _, cap, keys_cell hB, done _ _ ⟨a, cap, xs, rfl, k2, hp, ho⟩⟩)
    cases e <;> simp only [pieceQ] at he ⊢ <;> first | exact he.elim | exact he
  refine seq_piece (K := fun ρ' H' => ρ' 2 = .pointer (some ⟨sb, 0, none⟩) ∧ ρ' 6 = fnv ∧ H' = H1) ?_ ?_
  · have h1 := slices_AppendSeqasl_int_int_c_heq ρ1 fnv (.pointer (some ⟨sb, 0, none⟩)) H1 (fun v1 v2 H' => v1 = .pointer (some ⟨sb, 0, none⟩) ∧ v2 = fnv ∧ H' = H1) R
    rw [put2 e1 e2] at h1
    refine CodeW.mono _ (fun e ρ' H' he => ?_) _ _ (Eq.mp h1 ⟨rfl, rfl, rfl⟩)
    cases e <;> simp only [pieceQ] at he ⊢ <;> first | exact he.elim | exact he
  rintro ρ2 H2 ⟨f2, f6, rfl⟩
  refine block_piece ?_
  simp only [CodeW]
  rw [show ev ρ2 (.tmp 6) = Value.func (.func fKeys) #[] ⟨[.pointer (some ⟨bx, bo, none⟩)]⟩ from f6.trans hfn.symm]
  refine ⟨rfl, fun nt d l rec hdn hln hne hst hpe hps hra hrb hT hrnd => ?_⟩
  rw [show (#[Value.func (.yield l) #[] #[]] ++ (⟨[Value.pointer (some ⟨bx, bo, none⟩)]⟩ : Array Value)) = ⟨[.func (.yield l) #[] #[], .pointer (some ⟨bx, bo, none⟩)]⟩ from by apply Array.ext'; simp]
  have hlH : H l = none := k1.free hln
  have hdH : H d = none := k1.free hdn
  have kS : Keep Nil H ((H2.upd d (.deferred (some []))).upd l (.loop rec)) := (k1.new hdn).new (by rw [upd_ne hne]; exact hln)
  have hLs : ((H2.upd d (.deferred (some []))).upd l (.loop rec)) l = some (.loop rec) := upd_eq
  have hBs : Blk ((H2.upd d (.deferred (some []))).upd l (.loop rec)) sb T_sl_int ⟨[.slice none 0 0]⟩ := by
    refine hB1.same ?_
    rw [upd_ne (fun x => by subst x; rw [hB1] at hln; cases hln), upd_ne (fun x => by subst x; rw [hB1] at hdn; cases hdn)]
  generalize (H2.upd d (.deferred (some []))).upd l (.loop rec) = Hs at kS hLs hBs ⊢
  have hbxs : Hs.cell ⟨bx, bo, none⟩ = some (.map (some mb)) := by
    rw [← hbx]
    simp only [Heap.cell]
    rw [kS.same bx (fun x => x) fun h0 => by simp [Heap.cell, h0] at hbx]
  have hms : Hs mb = some (.map ⟨es⟩ ck) := by rw [kS.same mb (fun x => x) (by rw [hm]; simp)]; exact hm
  refine maps_Keysamapaint_p_tcp_one_int_p_tcp_one_1_sh l bx bo ?_
  unfold maps_Keysamapaint_p_tcp_one_int_p_tcp_one_1_p
  refine ⟨.map (some mb), hbxs, ?_⟩
  refine (SemW.bind _ _ _ _).2 (RgG (kt := T_int) (el := T_p_tcp_one) (by kernel_rfl) hms fun itb hitn => ?_)
  dsimp only [SemW, pure, Sem.pure, NextW]
  -- what is left is the end
  have fin : ∀ (seen : List MapEntry) (Hc : Heap), KInv H sb l itb mb rec es ck f seen Hc → (∀ e ∈ es, e.born ∈ seen.map (·.born)) → ∀ H3, Shut Hs Hc H3 → EndC l ρ2 H3 (blockK 0 (pieceQ (fun ρ' H' => ρ' 2 = .pointer (some ⟨sb, 0, none⟩) ∧ ∃ a cap xs, Blk H' sb T_sl_int ⟨[.slice a xs.length cap]⟩ ∧ Keep Nil H H' ∧ xs.Perm ks ∧ Sh.Own H H' a xs.length cap 1 T_int (ivs xs)) (RetW Tryz.prog Tryz.f171.results.toList R))) := by
    intro seen Hc hi hall H3 hs
    have hl3 : H3 l = some (.loop rec) := by
      rcases hs l with e | ⟨_, e, _⟩
      · rw [e]; exact hi.lp
      · rw [hi.lp] at e; cases e
    obtain ⟨a, cap, hB, hO⟩ := hi.row
    have hB3 := shutB hB hs
    have hO3 : Sh.Own H H3 a seen.length cap 1 T_int (ivs (seen.map f)) := shutO hO hs
    have hk3 : Keep Nil H H3 := ⟨fun b _ h0 => by
      rcases hs b with e | ⟨e, _, _⟩
      · rw [e]; exact hi.keep.same b (fun x => x) h0
      · exact absurd e (kS.live b h0), fun b h0 => by
      rcases hs b with e | ⟨e, _, _⟩
      · rw [e]; exact hi.keep.live b h0
      · exact absurd e (kS.live b h0)⟩
    refine ⟨rec, hl3, by rw [hst]; simp, ?_⟩
    rw [hpe]
    refine ⟨f2, a, cap, seen.map f, ?_, hk3.upd (.inr hlH), ?_, ?_⟩
    · rw [List.length_map]
      exact hB3.same (upd_ne (blk_ne hB3 hl3 fun _ _ _ h => by cases h))
    · rw [hke]; exact (perm_of hd hi.sub hi.nd hall).map f
    · rw [List.length_map]
      exact own_upd hO3 fun c => not_blk hl3 (fun _ _ _ h => by cases h) _ c
  have hitl : itb ≠ l := fun h => by subst h; rw [hitn] at hLs; cases hLs
  have hitm : itb ≠ mb := fun h => by subst h; rw [hitn] at hms; cases hms
  have hits : itb ≠ sb := fun h => by subst h; rw [hBs] at hitn; cases hitn
  refine ⟨fun k _ Hc => ∃ seen, KInv H sb l itb mb rec es ck f seen Hc ∧ seen.length + k = es.length, es.length, ⟨[], ⟨upd_eq, by rw [upd_ne hitm.symm]; exact hms, by rw [upd_ne hitl.symm]; exact hLs, ⟨none, 0, hBs.same (upd_ne hits.symm), Own.nil⟩, kS.new hitn, (fun _ h => by cases h), List.nodup_nil⟩, by simp⟩, ?_⟩
  rintro k u Hc ⟨seen, hi, hk⟩ gE
  unfold maps_Keysamapaint_p_tcp_one_int_p_tcp_one_1_l1
  refine NxG hi.it hi.mp hb (fun hall => ⟨false, [], rfl, ifF rfl (fin seen Hc hi hall)⟩) fun e he hns => ⟨true, [e.key, e.val], rfl, ifT rfl ?_⟩
  have hsl : seen.length < es.length := by
    have h1 := nodup_sub (seen := seen ++ [e]) (es := es) (fun x hx => by
      rcases List.mem_append.1 hx with h | h
      · exact hi.sub x h
      · rw [List.mem_singleton.1 h]; exact he) (by
      rw [List.map_append, List.nodup_append]
      refine ⟨hi.nd, by simp, fun x hx y hy => ?_⟩
      simp only [List.map_cons, List.map_nil, List.mem_singleton] at hy
      rintro rfl
      subst hy
      exact hns hx)
    simp only [List.length_append, List.length_cons, List.length_nil] at h1
    omega
  have hdist : ∀ x ∈ es, x.born = e.born → x = e := fun x hx hxe => by
    have : ∀ {l : List MapEntry}, (l.map (·.born)).Nodup → ∀ x ∈ l, ∀ y ∈ l, x.born = y.born → x = y := by
      intro l
      induction l with
      | nil => intro _ x hx; cases hx
      | cons z r ih =>
        intro h x hx y hy e
        simp only [List.map_cons, List.nodup_cons, List.mem_map, not_exists, not_and] at h
        rcases List.mem_cons.1 hx with e1 | hx1 <;> rcases List.mem_cons.1 hy with e2 | hy1
        · rw [e1, e2]
        · rw [e1] at e; exact absurd e.symm (h.1 y hy1)
        · rw [e2] at e; exact absurd e (h.1 x hx1)
        · exact ih h.2 x hx1 y hy1 e
    exact this hd x hx e he hxe
  have hnew : Hc itb ≠ none := by rw [hi.it]; simp
  have hitc : itb ≠ mb := hitm
  have hit2 : (Hc.upd itb (.mapIter (some mb) ck ⟨seen.map (·.born) ++ [e.born]⟩ ck)) itb = some (.mapIter (some mb) ck ⟨seen.map (·.born) ++ [e.born]⟩ ck) := upd_eq
  have hnit : ∀ b, b ≠ itb → (Hc.upd itb (.mapIter (some mb) ck ⟨seen.map (·.born) ++ [e.born]⟩ ck)) b = Hc b := fun b hb => upd_ne hb
  have hkd : Keep Nil H (Hc.upd itb (.mapIter (some mb) ck ⟨seen.map (·.born) ++ [e.born]⟩ ck)) := hi.keep.upd (.inr (kS.free hitn))
  have hown : ∀ {a cap}, Sh.Own H Hc a seen.length cap 1 T_int (ivs (seen.map f)) → Sh.Own H (Hc.upd itb (.mapIter (some mb) ck ⟨seen.map (·.born) ++ [e.born]⟩ ck)) a seen.length cap 1 T_int (ivs (seen.map f)) := fun h => own_upd h fun c => not_blk hi.it (fun _ _ _ h => by cases h) _ c
  generalize Hc.upd itb (.mapIter (some mb) ck ⟨seen.map (·.born) ++ [e.born]⟩ ck) = Hd at hit2 hnit hkd hown ⊢
  refine EnG (seen := seen.map (·.born)) hit2 (by rw [hnit mb hitm.symm]; exact hi.mp) he hdist ?_
  refine ⟨e.key, e.val, rfl, ?_⟩
  have hld : Hd l = some (.loop rec) := by rw [hnit l hitl.symm]; exact hi.lp
  refine ⟨rec, hld, hst, by rw [hps]; rfl, ?_⟩
  rw [hps, hra, hrb]
  refine hrnd [e.key] _ _ rfl ?_
  unfold RoundC
  have hx2 : (bindR [7] [e.key] ρ2) 2 = .pointer (some ⟨sb, 0, none⟩) := f2
  have hx7 : (bindR [7] [e.key] ρ2) 7 = .int .i64 (f e) := hks e he
  have hA := slices_AppendSeqasl_int_int_e_heq (bindR [7] [e.key] ρ2) sb (f e) Hd (fun v1 v2 H' => v1 = .pointer (some ⟨sb, 0, none⟩) ∧ v2 = .int .i64 (f e) ∧ H' = Hd) (fun _ _ => False)
  rw [put2 hx2 hx7] at hA
  refine CodeW.mono _ (fun ex ρ3 H3 hk3 => ?_) _ _ (Eq.mp hA ⟨rfl, rfl, rfl⟩)
  obtain ⟨rfl, g2, g5, rfl⟩ := pieceQ_normal hk3
  refine ⟨rec, hld, hst, ?_⟩
  obtain ⟨a, cap, hB, hO⟩ := hi.row
  have hBd : Blk H3 sb T_sl_int ⟨[.slice a seen.length cap]⟩ := hB.same (hnit sb hits.symm)
  have hOd := hown hO
  have hBb : Blk (H3.upd l (.loop { rec with state := .busy })) sb T_sl_int ⟨[.slice a seen.length cap]⟩ := hBd.same (upd_ne (blk_ne hBd hld fun _ _ _ h => by cases h))
  have hOb : Sh.Own H (H3.upd l (.loop { rec with state := .busy })) a seen.length cap 1 T_int (ivs (seen.map f)) := own_upd hOd fun c => not_blk hld (fun _ _ _ h => by cases h) _ c
  have hkb : Keep Nil H (H3.upd l (.loop { rec with state := .busy })) := hkd.upd (.inr hlH)
  have hlb : (H3.upd l (.loop { rec with state := .busy })) l = some (.loop { rec with state := .busy }) := upd_eq
  have hnb : ∀ b, b ≠ l → (H3.upd l (.loop { rec with state := .busy })) b = H3 b := fun b hb => upd_ne hb
  generalize H3.upd l (.loop { rec with state := .busy }) = Hb at hBb hOb hkb hlb hnb ⊢
  have hr := slices_AppendSeqasl_int_int_r_heq ρ3 sb (f e) Hb (fun H4 => Keep Nil H H4 ∧ (∀ b, Hb b ≠ none → b ≠ sb → (∀ T c, ¬ Blk Hb b T c) → H4 b = Hb b) ∧ ∃ a' cap', Blk H4 sb T_sl_int ⟨[.slice a' (seen.length + 1 : Nat) cap']⟩ ∧ Sh.Own H H4 a' (seen.length + 1) cap' 1 T_int (ivs (seen.map f) ++ [.int .i64 (f e)])) (fun _ _ => False)
  rw [put2 g2 g5] at hr
  refine CodeW.mono _ (fun ex ρ4 H4 hk4 => ?_) _ _ (Eq.mp hr (app_round hkb hsb hBb hOb (by omega) fun H4 q1 q2 q3 => ⟨q1, q2, q3⟩))
  obtain ⟨rfl, q1, q2, a', cap', q3, q4⟩ := pieceQ_normal hk4
  have hl4 : H4 l = some (.loop { rec with state := .busy }) := by
    rw [q2 l (by rw [hlb]; simp) (fun h => by subst h; rw [hBb] at hlb; cases hlb) (not_blk hlb fun _ _ _ h => by cases h)]; exact hlb
  have keepO : ∀ b o, b ≠ l → H3 b = some o → (∀ x y z, o ≠ .cells x y z) → H4 b = some o := fun b o hbl ho hn => by
    have h1 : Hb b = some o := by rw [hnb b hbl]; exact ho
    rw [q2 b (by rw [h1]; simp) (fun h => by subst h; exact not_blk h1 hn _ _ hBb) (not_blk h1 hn)]; exact h1
  refine ⟨_, hl4, ?_⟩
  simp only [jumpOf, Option.isNone, if_true]
  rw [again hst hpe]
  refine ⟨true, rfl, ifF rfl ⟨k - 1, by omega, seen ++ [e], ?_, by simp only [List.length_append, List.length_cons, List.length_nil]; omega⟩⟩
  refine ⟨?_, ?_, upd_eq, ⟨a', cap', ?_, ?_⟩, q1.upd (.inr hlH), fun x hx => ?_, ?_⟩
  · rw [upd_ne hitl, keepO itb _ hitl hit2 fun _ _ _ h => by cases h]
    simp
  · rw [upd_ne (fun h => by rw [h] at hms; rw [hms] at hLs; cases hLs), keepO mb _ (fun h => by rw [h] at hms; rw [hms] at hLs; cases hLs) (by rw [hnit mb hitm.symm]; exact hi.mp) fun _ _ _ h => by cases h]
  · have := q3.same (upd_ne (H := H4) (o := .loop rec) (blk_ne q3 hl4 fun _ _ _ h => by cases h))
    simpa using this
  · have := own_upd (q := l) (o := .loop rec) q4 fun c => not_blk hl4 (fun _ _ _ h => by cases h) _ c
    rw [own_int, show seen.map f ++ [f e] = (seen ++ [e]).map f by simp] at this
    simpa using this
  · rcases List.mem_append.1 hx with h | h
    · exact hi.sub x h
    · rw [List.mem_singleton.1 h]; exact he
  · rw [List.map_append, List.nodup_append]
    refine ⟨hi.nd, by simp, fun x hx y hy => ?_⟩
    simp only [List.map_cons, List.map_nil, List.mem_singleton] at hy
    rintro rfl
    subst hy
    exact hns hx
end Go.Proofs.YtcdjiihnkinpcaaGreat
