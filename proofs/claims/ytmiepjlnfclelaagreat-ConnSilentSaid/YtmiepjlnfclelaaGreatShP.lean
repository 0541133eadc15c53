/-
  Pieces of code, one behind the other; what is shut.
-/
import Derived.Test.YtmiepjlnfclelaaGreatSh16
set_option linter.all false
namespace Go.Pc
open Go.Sh
theorem seq_piece {P : Program} {plan : Plan} {a b : Code} {ρ : Env} {H : Heap} {Q : Post} {K : Env → Heap → Prop} (h : CodeW P plan a ρ H (pieceQ K Q)) (hk : ∀ ρ' H', K ρ' H' → CodeW P plan b ρ' H' Q) : CodeW P plan (.seq a b) ρ H Q := by
  simp only [CodeW]
  refine CodeW.mono a (fun e ρ' H' he => ?_) _ _ h
  cases e <;> simp only [pieceQ] at he <;> first | exact he.elim | exact hk _ _ he | exact he
theorem block_piece {P : Program} {plan : Plan} {i : Nat} {c : Code} {ρ : Env} {H : Heap} {Q : Post} (h : CodeW P plan c ρ H (blockK i Q)) : CodeW P plan (.block i c) ρ H Q := by simp only [CodeW]; exact h
theorem resW_false {P : Program} {ρ : Env} {H : Heap} : ∀ (rs : List ResultVar) (acc : List Value), ResW P ρ H rs acc (fun _ => False) → False
  | [], _, h => h
  | .tmp t :: rs, acc, h => resW_false rs _ (by simpa only [ResW] using h)
  | .cell a t :: rs, acc, h => by
    simp only [ResW] at h
    obtain ⟨v, hv, _⟩ := LoadW.read h
    exact resW_false rs _ hv
theorem pieceQ_normal {P : Program} {K : Env → Heap → Prop} {rs : List ResultVar} {e : Exit} {ρ : Env} {H : Heap} (h : pieceQ K (RetW P rs fun _ _ => False) e ρ H) : e = .normal ∧ K ρ H := by
  cases e <;> simp only [pieceQ] at h <;> first | exact h.elim | exact ⟨rfl, h⟩ | exact (resW_false _ _ h).elim
theorem put2 {ρ : Env} {d1 d2 : Tmp} {v1 v2 : Value} (h1 : ρ d1 = v1) (h2 : ρ d2 = v2) : put (put ρ (some d1) v1) (some d2) v2 = ρ := by rw [put_same h1, put_same h2]
theorem shutK {H0 H H2 : Heap} (k : Keep Nil H0 H) (hs : Shut H0 H H2) : Keep Nil H0 H2 :=
  ⟨fun b hb ha => by
    rcases hs b with e | ⟨e, _, _⟩
    · rw [e]; exact k.same b hb ha
    · exact absurd e ha, fun b ha => by
    rcases hs b with e | ⟨e, _, _⟩
    · rw [e]; exact k.live b ha
    · exact absurd e ha⟩
theorem shutB {H0 H H2 : Heap} {b : Nat} {T : TypeId} {c : Array Value} (h : Blk H b T c) (hs : Shut H0 H H2) : Blk H2 b T c := by
  rcases hs b with e | ⟨_, e, _⟩
  · exact h.same e
  · unfold Blk at h; rw [h] at e; cases e
theorem shutO {H0 H1 H H2 : Heap} {a : Option Addr} {n cap sz : Nat} {T : TypeId} {xs : List Value} (h : Sh.Own H0 H a n cap sz T xs) (hs : Shut H1 H H2) : Sh.Own H0 H2 a n cap sz T xs := by
  obtain ⟨h1, h2, h3⟩ := h
  refine ⟨h1, h2, ?_⟩
  rcases h3 with h | ⟨m, rest, e, h0, hb, hr⟩
  · exact .inl h
  · exact .inr ⟨m, rest, e, h0, shutB hb hs, hr⟩
theorem ifT {b : Bool} {X Y : Prop} (h : b = true) (x : X) : IfB b X Y := by subst h; exact x
theorem ifF {b : Bool} {X Y : Prop} (h : b = false) (y : Y) : IfB b X Y := by subst h; exact y
end Go.Pc
