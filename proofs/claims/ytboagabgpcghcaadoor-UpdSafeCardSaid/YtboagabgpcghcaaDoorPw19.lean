/-
  A loop over a function, said of the heap: by the contract of the iterator.
-/
import Derived.Test.YtboagabgpcghcaaDoorPw18
import Derived.Test.YtboagabgpcghcaaDoorSh16
set_option linter.all false
namespace Go.Sh
variable [Laid]
structure Looper (I : It) (Hs : Heap) (bs : List Nat) where
  J : (Nat -> Prop) -> (Nat -> Prop) -> List (PkTs I.ps) -> Heap -> Prop
  X : Exit -> (Nat -> Prop) -> (Nat -> Prop) -> Heap -> Prop
  stJ : ∀ {Z W : Nat -> Prop} {r : List (PkTs I.ps)} {H H' : Heap}, J Z W r H -> (∀ b, H b ≠ none -> Z b ∨ W b ∨ (Hs b ≠ none ∧ b ∉ bs) -> H' b = H b) -> (∀ b, H b ≠ none -> H' b ≠ none) -> J Z W r H'
  stX : ∀ {e : Exit} {Z W : Nat -> Prop} {H H' : Heap}, X e Z W H -> (∀ b, H b ≠ none -> Z b ∨ W b ∨ (Hs b ≠ none ∧ b ∉ bs) -> H' b = H b) -> (∀ b, H b ≠ none -> H' b ≠ none) -> X e Z W H'
  ndJ : ∀ {Z W : Nat -> Prop} {r : List (PkTs I.ps)} {H : Heap}, J Z W r H -> ∀ b, Z b ∨ W b -> Hs b ≠ none ∨ ∀ ds, H b ≠ some (.deferred ds)
  ndX : ∀ {e : Exit} {Z W : Nat -> Prop} {H : Heap}, X e Z W H -> ∀ b, Z b ∨ W b -> Hs b ≠ none ∨ ∀ ds, H b ≠ some (.deferred ds)
def After {I : It} {Hs : Heap} {bs : List Nat} (L : Looper I Hs bs) (Z W Zx : Nat -> Prop) (r : List (PkTs I.ps)) (H1 : Heap) (e : Exit) (H3 : Heap) : Prop :=
  (∀ b, H1 b ≠ none -> ¬ W b -> H3 b = H1 b) ∧ (∀ b, H1 b ≠ none -> H3 b ≠ none) ∧ ∃ Z' W' : Nat -> Prop, (∀ b, Z b ∨ Zx b -> Z' b ∧ H3 b = H1 b) ∧ (∀ b, W' b -> W b ∨ H1 b = none) ∧ (∀ b, Z' b -> Z b ∨ Zx b ∨ W b ∨ H1 b = none) ∧
    (∀ b, Z' b ∨ W' b -> H3 b ≠ none) ∧ (∀ b, W' b -> ¬ Z' b) ∧ ((e = .normal ∧ L.J Z' W' r H3) ∨ ((∃ code, jumpOf e = some (some code)) ∧ L.X e Z' W' H3))
theorem seq_piece {P : Program} {plan : Plan} {a b : Code} {ρ : Env} {H : Heap} {Q : Post} {K : Env -> Heap -> Prop} (h : CodeW P plan a ρ H (pieceQ K Q)) (hk : ∀ ρ' H', K ρ' H' -> CodeW P plan b ρ' H' Q) : CodeW P plan (.seq a b) ρ H Q := by
  simp only [CodeW]; refine CodeW.mono a (fun e ρ' H' he => ?_) _ _ h; cases e <;> simp only [pieceQ] at he <;> first | exact he.elim | exact hk _ _ he | exact he
theorem block_piece {P : Program} {plan : Plan} {i : Nat} {c : Code} {ρ : Env} {H : Heap} {Q : Post} (h : CodeW P plan c ρ H (blockK i Q)) : CodeW P plan (.block i c) ρ H Q := by simp only [CodeW]; exact h
theorem resW_false {P : Program} {ρ : Env} {H : Heap} : ∀ (rs : List ResultVar) (acc : List Value), ResW P ρ H rs acc (fun _ => False) -> False
  | [], _, h => h
  | .tmp t :: rs, acc, h => resW_false rs _ (by simpa only [ResW] using h)
  | .cell a t :: rs, acc, h => by simp only [ResW] at h; obtain ⟨v, hv, _⟩ := LoadW.read h; exact resW_false rs _ hv
theorem pieceQ_normal {P : Program} {K : Env -> Heap -> Prop} {rs : List ResultVar} {e : Exit} {ρ : Env} {H : Heap} (h : pieceQ K (RetW P rs fun _ _ => False) e ρ H) : e = .normal ∧ K ρ H := by
  cases e <;> simp only [pieceQ] at h <;> first | exact h.elim | exact ⟨rfl, h⟩ | exact (resW_false _ _ h).elim
theorem simL_same {Z : Nat -> Prop} {H H' : Heap} {as : List AV} {vs : List Value} (hz : ∀ b, Z b -> H' b = H b) (h : SimL ⟨Z, fun _ => 0, fun _ => .nilFunc⟩ H 0 as vs) : SimL ⟨Z, fun _ => 0, fun _ => .nilFunc⟩ H' 0 as vs :=
  SimL.ext (Nat.le_refl _) ⟨fun b hb => ⟨hb, hz b hb⟩, fun _ h => absurd h (by omega), fun _ h => absurd h (by omega)⟩ _ _ h
theorem range_heap {P : Program} {plan : Plan} {g : Operand} {ps : Array Tmp} {assign body : Code} {ρ : Env} {H : Heap} {Q : Post} {f : FuncId} {I : It} (hI : ItOk P f I) {bs : List Nat} {us : List Value} {c : PTup I.kc} {Z0 W0 : Nat -> Prop}
    (hg : ev ρ g = .func (.func f) #[] ⟨bs.map capBox⟩) (hpre : I.pre c) (hnd : bs.Nodup) (hlen : bs.length = us.length) (hval : ∀ (i b : Nat) (v : Value), bs[i]? = some b -> us[i]? = some v -> ∃ T, H b = some (.cells ⟨[v]⟩ T (0, 0)))
    (hus : SimL ⟨Z0, fun _ => 0, fun _ => .nilFunc⟩ H 0 (avsY 0 I.kc c) us) (hwf : WfY I.kc c) (hz : ∀ b, Z0 b -> H b ≠ none) (hbz : ∀ b ∈ bs, ¬ Z0 b ∧ ¬ W0 b) (hw : ∀ b, W0 b -> H b ≠ none ∧ ¬ Z0 b)
    (hlay : ∀ b, Laid.blocks b = true -> H b ≠ none ∧ b ∉ bs ∧ ¬ W0 b) (hlo : Laid.ok (layH H)) (L : Looper I H bs) (hJ : L.J Z0 W0 (I.xs c) H) (hpl : I.ps.length = ps.size) {S : List Value -> Env -> Prop}
    (hA : ∀ (vs : List Value) (H1 : Heap), vs.length = ps.size -> CodeW P plan assign (bindR ps.toList vs ρ) H1 fun e ρ1 H2 => e = .normal ∧ H2 = H1 ∧ S vs ρ1)
    (hB : ∀ (Z W Zx : Nat -> Prop) (x : PkTs I.ps) (r : List (PkTs I.ps)) (H1 : Heap) (vs : List Value) (ρ1 : Env), S vs ρ1 -> L.J Z W (x :: r) H1 -> ArgIs Zx H1 I.ps x vs -> (∀ b, Zx b -> Z b ∨ (¬ W b ∧ (∃ cs T q, H1 b = some (.cells cs T q)) ∧ (b ∈ bs ∨ H b = none))) →
      CodeW P plan body ρ1 H1 fun e _ H3 => After L Z W Zx r H1 e H3)
    (hE : ∀ (Z W : Nat -> Prop) (H' : Heap), L.J Z W [] H' -> Q .normal ρ H') (hX : ∀ (e : Exit) (Z W : Nat -> Prop) (H' : Heap), L.X e Z W H' -> Q e ρ H') :
    CodeW P plan (.rangeFunc g ps assign body) ρ H Q := by
  simp only [CodeW]; rw [hg]; refine ⟨rfl, fun nt d l rec hd hl hne hst hpe hps hra hrb hT hrnd => ?_⟩; have hHs : ∀ b, H b ≠ none -> ((H.upd d (.deferred (some []))).upd l (.loop rec)) b = H b := fun b hb => by rw [upd_ne (fun e => hb (by rw [e]; exact hl)), upd_ne (fun e => hb (by rw [e]; exact hd))]
  have hHl : ((H.upd d (.deferred (some []))).upd l (.loop rec)) l = some (.loop rec) := upd_eq; have hHsn : ∀ b, ((H.upd d (.deferred (some []))).upd l (.loop rec)) b = none -> H b = none := fun b hb => by by_cases e1 : b = l; subst e1; rw [hHl] at hb; cases hb; rw [upd_ne e1] at hb; by_cases e2 : b = d; subst e2; exact hd; rw [upd_ne e2] at hb; exact hb
  generalize hHe : (H.upd d (.deferred (some []))).upd l (.loop rec) = Hs at hHs hHl hHsn ⊢; have hbl : ∀ b ∈ bs, H b ≠ none := fun b hb => by
    obtain ⟨i, hi⟩ := List.getElem?_of_mem hb; have hil : i < us.length := by rw [← hlen]; rcases Nat.lt_or_ge i bs.length with h | h; exact h; rw [List.getElem?_eq_none h] at hi; cases hi
    obtain ⟨T, hT⟩ := hval i b _ hi (List.getElem?_eq_getElem hil); rw [hT]; simp
  have agree : ∀ {Z Wu : Nat -> Prop} {Hc H2 : Heap}, (∀ b, Hc b ≠ none -> Z b ∨ (b = l ∨ Wu b) ∨ (Hs b ≠ none ∧ b ∉ bs) -> H2 b = Hc b) -> ∀ b, Hc b ≠ none -> Z b ∨ Wu b ∨ (H b ≠ none ∧ b ∉ bs) -> H2 b = Hc b := fun {Z Wu Hc H2} hag b hb hc => by rcases hc with h | h | h; exact hag b hb (.inl h); exact hag b hb (.inr (.inl (.inr h))); exact hag b hb (.inr (.inr ⟨by rw [hHs b h.1]; exact h.1, h.2⟩))
  let C : Cons P l I.ps Hs bs := {
    J := fun Z W r Hc => ∃ Wu : Nat -> Prop, W = (fun b => b = l ∨ Wu b) ∧ L.J Z Wu r Hc ∧ Hc l = some (.loop rec) ∧ ¬ Z l ∧ ¬ Wu l
    X := fun Z W Hc => ∃ (Wu : Nat -> Prop) (e : Exit) (code : Code) (r : Loop), W = (fun b => b = l ∨ Wu b) ∧ jumpOf e = some (some code) ∧ L.X e Z Wu Hc ∧ Hc l = some (.loop r) ∧ r.state ≠ .busy ∧ r.pending = some code ∧ ¬ Z l ∧ ¬ Wu l
    stJ := fun {Z W r Hc H2} hJ hag hlv => by obtain ⟨Wu, rfl, hj, hl1, hzl, hwl⟩ := hJ; exact ⟨Wu, rfl, L.stJ hj (agree hag) hlv, by rw [hag l (by rw [hl1]; simp) (.inr (.inl (.inl rfl)))]; exact hl1, hzl, hwl⟩
    stX := fun {Z W Hc H2} hX hag hlv => by obtain ⟨Wu, e, code, r, rfl, hj, hx, hl1, h2, h3, hzl, hwl⟩ := hX; exact ⟨Wu, e, code, r, rfl, hj, L.stX hx (agree hag) hlv, by rw [hag l (by rw [hl1]; simp) (.inr (.inl (.inl rfl)))]; exact hl1, h2, h3, hzl, hwl⟩
    ndJ := fun {Z W r Hc} hJ b hb => by
      obtain ⟨Wu, rfl, hj, hl1, hzl, hwl⟩ := hJ; have key : ∀ b, Z b ∨ Wu b -> Hs b ≠ none ∨ ∀ ds, Hc b ≠ some (.deferred ds) := fun b hb => (L.ndJ hj b hb).imp (fun h => by rw [hHs b h]; exact h) id
      rcases hb with hb | rfl | hb; exact key b (.inl hb)
      . exact .inr fun ds e => by rw [hl1] at e; cases e
      exact key b (.inr hb)
    ndX := fun {Z W Hc} hX b hb => by
      obtain ⟨Wu, e, code, r, rfl, hj, hx, hl1, h2, h3, hzl, hwl⟩ := hX; have key : ∀ b, Z b ∨ Wu b -> Hs b ≠ none ∨ ∀ ds, Hc b ≠ some (.deferred ds) := fun b hb => (L.ndX hx b hb).imp (fun h => by rw [hHs b h]; exact h) id
      rcases hb with hb | rfl | hb; exact key b (.inl hb)
      . exact .inr fun ds e => by rw [hl1] at e; cases e
      exact key b (.inr hb)
    round := fun {Z W Zx x r H1 ws} hJ hx hZx => by
      obtain ⟨Wu, rfl, hj, hl1, hzl, hwl⟩ := hJ; have hwl2 : ws.length = ps.size := by have := SimL.len hx; rw [pksA_length] at this; rw [← this, hpl]
      have hxl : ¬ Zx l := fun h => by rcases hZx l h with h | ⟨h, _⟩; exact hzl h; exact h (.inl rfl)
      have hln : H1 l ≠ none := by rw [hl1]; simp
      refine ⟨rec, hl1, hst, by rw [hps]; exact hwl2, ?_⟩
      rw [hps, hra, hrb]; refine hrnd ws H1 _ hwl2 ?_; unfold RoundC; refine CodeW.mono assign (fun e ρ1 Ha hk => ?_) _ _ (hA ws H1 hwl2); obtain ⟨rfl, rfl, hS⟩ := hk; simp only; refine ⟨rec, hl1, hst, ?_⟩; have hne : ∀ b, b ≠ l -> (Ha.upd l (.loop { rec with state := .busy })) b = Ha b := fun b hb => upd_ne hb
      have hbusy : (Ha.upd l (.loop { rec with state := .busy })) l = some (.loop { rec with state := .busy }) := upd_eq
      have hlv : ∀ b, Ha b ≠ none -> (Ha.upd l (.loop { rec with state := .busy })) b ≠ none := fun b hb => by by_cases e : b = l; subst e; rw [hbusy]; simp; rw [hne b e]; exact hb
      have hnn : ∀ b, (Ha.upd l (.loop { rec with state := .busy })) b = none -> Ha b = none := fun b hb => by by_cases e : b = l; subst e; rw [hbusy] at hb; cases hb; rw [hne b e] at hb; exact hb
      generalize Ha.upd l (.loop { rec with state := .busy }) = Hb at hne hbusy hlv hnn ⊢
      have hjb : L.J Z Wu (x :: r) Hb := L.stJ hj (fun b _ hc => hne b fun e => by
        subst e; rcases hc with h | h | h; exact hzl h; exact hwl h
        . exact h.1 hl) hlv
      have hxb : ArgIs Zx Hb I.ps x ws := simL_same (fun b hb => hne b fun e => hxl (e ▸ hb)) hx; refine CodeW.mono body (fun e ρ2 Hc hk => ?_) _ _ (hB Z Wu Zx x r Hb ws ρ1 hS hjb hxb fun b hb => ?_)
      . obtain ⟨k1, k2, Z', W', k3, k4, k5, k6, k7, hk⟩ := hk; have hlc : Hc l = some (.loop { rec with state := .busy }) := by rw [k1 l (by rw [hbusy]; simp) hwl]; exact hbusy
        have hzl' : ¬ Z' l := fun h => by rcases k5 l h with h | h | h | h; exact hzl h; exact hxl h; exact hwl h; rw [hbusy] at h; cases h
        have hwl' : ¬ W' l := fun h => by rcases k4 l h with h | h; exact hwl h; rw [hbusy] at h; cases h
        unfold RoundE; refine ⟨_, hlc, ?_⟩; have pack : ∀ (rr : Loop) (Hd : Heap), Hd = Hc.upd l (.loop rr) -> (∀ b, Ha b ≠ none -> ¬ (b = l ∨ Wu b) -> Hd b = Ha b) ∧ (∀ b, Ha b ≠ none -> Hd b ≠ none) ∧ (∀ b, Z b ∨ Zx b -> Z' b ∧ Hd b = Ha b) ∧ (∀ b, (b = l ∨ W' b) -> (b = l ∨ Wu b) ∨ Ha b = none) ∧
            (∀ b, Z' b -> Z b ∨ Zx b ∨ (b = l ∨ Wu b) ∨ Ha b = none) ∧ (∀ b, Z' b ∨ (b = l ∨ W' b) -> Hd b ≠ none) ∧ (∀ b, (b = l ∨ W' b) -> ¬ Z' b) ∧ Hd l = some (.loop rr) ∧ (∀ b, Hc b ≠ none -> Z' b ∨ W' b ∨ (H b ≠ none ∧ b ∉ bs) -> Hd b = Hc b) ∧ (∀ b, Hc b ≠ none -> Hd b ≠ none) := by
          rintro rr Hd rfl; have dn : ∀ b, b ≠ l -> (Hc.upd l (.loop rr)) b = Hc b := fun b hb => upd_ne hb; have dl : (Hc.upd l (.loop rr)) l = some (.loop rr) := upd_eq; have dv : ∀ b, Hc b ≠ none -> (Hc.upd l (.loop rr)) b ≠ none := fun b hb => by by_cases e : b = l; subst e; rw [dl]; simp; rw [dn b e]; exact hb
          refine ⟨fun b hb hc => ?_, fun b hb => dv b (k2 b (hlv b hb)), fun b hb => ?_, fun b hb => ?_, fun b hb => ?_, fun b hb => ?_, fun b hb => ?_, dl, fun b hb hc => dn b fun e => ?_, dv⟩; have hbl : b ≠ l := fun e => hc (.inl e); rw [dn b hbl, k1 b (hlv b hb) (fun h => hc (.inr h)), hne b hbl]
          . have hbl : b ≠ l := fun e => by subst e; rcases hb with h | h; exact hzl h; exact hxl h
            obtain ⟨q1, q2⟩ := k3 b hb; exact ⟨q1, by rw [dn b hbl, q2, hne b hbl]⟩
          rcases hb with h | h; exact .inl (.inl h); rcases k4 b h with h | h; exact .inl (.inr h); exact .inr (hnn b h); rcases k5 b hb with h | h | h | h; exact .inl h; exact .inr (.inl h); exact .inr (.inr (.inl (.inr h))); exact .inr (.inr (.inr (hnn b h))); rcases hb with h | rfl | h; exact dv b (k6 b (.inl h)); rw [dl]; simp; exact dv b (k6 b (.inr h)); rcases hb with rfl | h; exact hzl'; exact k7 b h; subst e; rcases hc with h | h | h; exact hzl' h; exact hwl' h; exact h.1 hl
        rcases hk with ⟨rfl, hk⟩ | ⟨⟨code, hcode⟩, hk⟩; simp only [jumpOf, Option.isNone, if_true]; rw [loop_again hst hpe]; obtain ⟨q1, q2, q3, q4, q5, q6, q7, q8, q9, q10⟩ := pack rec _ rfl; exact ⟨q1, q2, Z', fun b => b = l ∨ W' b, q3, q4, q5, q6, q7, .inl ⟨by trivial, W', rfl, L.stJ hk q9 q10, q8, hzl', hwl'⟩⟩
        rw [hcode]; simp only [Option.isNone, Bool.false_eq_true, if_false]; obtain ⟨q1, q2, q3, q4, q5, q6, q7, q8, q9, q10⟩ := pack { ({ rec with state := .busy } : Loop) with state := .done, pending := some code } _ rfl; exact ⟨q1, q2, Z', fun b => b = l ∨ W' b, q3, q4, q5, q6, q7, .inr ⟨by trivial, W', e, code, _, rfl, hcode, L.stX hk q9 q10, q8, by simp, rfl, hzl', hwl'⟩⟩
      . rcases hZx b hb with h | ⟨h1, ⟨cs, T, q, h2⟩, h3⟩; exact .inl h
        . refine .inr ⟨fun h => h1 (.inr h), ⟨cs, T, q, by rw [hne b fun e => h1 (.inl e)]; exact h2⟩, ?_⟩
          rcases h3 with h3 | h3; exact .inl h3; exact .inr (hHsn b h3)
  }
  have hzl : ¬ Z0 l := fun h => hz l h hl; have hwl : ¬ W0 l := fun h => (hw l h).1 hl; have hJ0 : L.J Z0 W0 (I.xs c) Hs := L.stJ hJ (fun b hb _ => hHs b hb) (fun b hb => by rw [hHs b hb]; exact hb)
  have hlayE : layH Hs = layH H := by
    funext b; unfold Sh.layH; cases hb : Laid.blocks b with
    | true => exact hHs b (hlay b hb).1
    | false => rfl
  have run := hI Hs Z0 (fun b => b = l ∨ W0 b) bs us c l C hpre hnd hlen (fun i b v h1 h2 => by
      obtain ⟨T, hT⟩ := hval i b v h1 h2; exact ⟨T, by rw [hHs b (by rw [hT]; simp)]; exact hT⟩)
    (simL_same (fun b hb => hHs b (hz b hb)) hus) hwf (fun b hb => by rw [hHs b (hz b hb)]; exact hz b hb) (fun b hb => ⟨(hbz b hb).1, fun h => by
      rcases h with h | h; subst h; exact hbl b hb hl
      . exact (hbz b hb).2 h⟩)
    (fun b hb => by
      rcases hb with rfl | hb; exact ⟨by rw [hHl]; simp, hzl⟩
      . obtain ⟨h1, h2⟩ := hw b hb; exact ⟨by rw [hHs b h1]; exact h1, h2⟩)
    (fun b hb => by
      obtain ⟨h1, h2, h3⟩ := hlay b hb; refine ⟨by rw [hHs b h1]; exact h1, h2, fun h => ?_⟩
      rcases h with h | h; subst h; exact h1 hl
      . exact h3 h)
    (by rw [hlayE]; exact hlo) ⟨W0, rfl, hJ0, hHl, hzl, hwl⟩
  have e0 : (#[.func (.yield l) #[] #[]] ++ (⟨bs.map capBox⟩ : Array Value)) = ⟨.func (.yield l) #[] #[] :: bs.map capBox⟩ := by apply Array.ext'; simp
  rw [e0]; refine run.mono fun v H' hk => ?_; obtain ⟨Z', W', hk | hk⟩ := hk
  . obtain ⟨Wu, rfl, hj, hl1, hzl', hwl'⟩ := hk; refine ⟨rec, hl1, by rw [hst]; simp, ?_⟩
    rw [hpe]; refine hE Z' Wu _ (L.stJ hj (fun b hb hc => upd_ne fun e => ?_) (fun b hb => ?_)); subst e; rcases hc with h | h | h; exact hzl' h; exact hwl' h; exact h.1 hl; by_cases e : b = l; subst e; rw [upd_eq]; simp; rw [upd_ne e]; exact hb
  . obtain ⟨Wu, e, code, r, rfl, hj, hx, hl1, h2, h3, hzl', hwl'⟩ := hk; refine ⟨r, hl1, h2, ?_⟩; have hx' := L.stX hx (H' := H'.upd l (.loop { r with state := .exhausted })) (fun b hb hc => upd_ne fun e => by
      subst e; rcases hc with h | h | h; exact hzl' h; exact hwl' h
      . exact h.1 hl) (fun b hb => by
      by_cases e : b = l; subst e; rw [upd_eq]; simp
      . rw [upd_ne e]; exact hb)
    have hq := hX e Z' Wu _ hx'; generalize H'.upd l (.loop { r with state := .exhausted }) = H2 at hq ⊢
    generalize r.pending = pp at h3 ⊢; subst h3; cases e <;> simp only [jumpOf, Option.some.injEq, reduceCtorEq] at hj <;> subst hj <;> exact hq
end Go.Sh
