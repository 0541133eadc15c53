/-
  Contracts out of what is known of a call in the model; the row, where package-level variables are listed.
-/
import Derived.Test.YtinilfhnplfhoaaPw15
import Derived.Stop.Joined
import Derived.LaidSub
import Derived.MakeChecks
set_option linter.all false
namespace Go.Sh
variable [Laid]
theorem simL_of {g : Gh} {H : Heap} {N : Nat} : ∀ {as : List AV} {vs : List Value}, as.length = vs.length -> (∀ i, i < as.length -> SimV g H N (as.getD i .undef) (vs.getD i undef)) -> SimL g H N as vs
  | [], [], _, _ => by simp only [SimL]
  | [], _ :: _, h, _ => by simp at h
  | _ :: _, [], h, _ => by simp at h
  | a :: as, v :: vs, h, hs => by simp only [SimL]; exact ⟨by simpa using hs 0 (by simp), simL_of (by simpa using h) fun i hi => by simpa using hs (i + 1) (by simpa using hi)⟩
theorem outL_outA {rs : List Pk} {as : List AV} (h : as.length = rs.length) : outL rs (outA as) = some as := by
  cases rs with
  | nil =>
    cases as with
    | nil => rfl
    | cons => simp at h
  | cons r rs =>
    cases as with
    | nil => simp at h
    | cons a as =>
      cases rs with
      | nil =>
        cases as with
        | nil => rfl
        | cons => simp at h
      | cons r2 rs =>
        cases as with
        | nil => simp at h
        | cons b as => rfl
theorem parS_simL {E : En} {ps : List Pk} {x : PkTs ps} {vs : List Value} {H : Heap} {g : Gh} (s : Sim E (parS ps x) (env0 vs) H g) (hl : vs.length = ps.length) : SimL g H (pksR ps x).length (pksA 0 ps x) vs := by
  refine simL_of (by rw [pksA_length]; omega) fun i _ => ?_
  have := s.tmp i; simpa [parS, env0] using this
theorem laidMet.tail {P : Program} {W : World} {x : String × DataW Unit} {rest : List (String × DataW Unit)} (h : laidMet P (x :: rest) W) : laidMet P rest W := by obtain ⟨ps, hl, hn, hc⟩ := h; obtain ⟨g', t', cs, fuel, p, q, hg', ht', hvar, hd, hrest, rfl⟩ := hl; exact ⟨q, hrest, (List.nodup_append.1 hn).2.1, fun b off hb => hc b off (List.mem_append_right _ hb)⟩
end Go.Sh
