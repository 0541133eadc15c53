/-
  A call that is run where it stands: the callee's text over the caller's own objects.
-/
import Derived.Test.YtomdgakmkihfhaaPw12
set_option linter.unusedSectionVars false
set_option linter.unusedSimpArgs false
set_option linter.unusedVariables false
namespace Go.Sh
variable [Laid]

def ctInl (P : Program) (tab : Tab) (plan : PPlan) (c : Code) (n : Nat) (rs : List ResultVar) : Ct := fun st args K => match Nat.ble args.length n with
  | true => PCode P tab plan c ⟨fun i => args.getD i .undef, st.σ⟩ (PRet P rs fun a st' => K a ⟨st.α, st'.σ⟩)
  | false => False

theorem ctInl_sound {P : Program} {f : FuncId} {fn : Func} {plan : PPlan} {c : Code} {tab : Tab} (k : Known P f fn plan.plan c) (ht : TabsOk P tab) : SoundCt P f (ctInl P tab plan c fn.ntmps fn.results.toList) := by
  intro E st ρ H g args vs K s hargs h
  unfold ctInl at h
  split at h
  case h_2 => exact h.elim
  rename_i hle
  have s1 : Sim E ⟨fun i => args.getD i .undef, st.σ⟩ (env0 vs) H g := { s with tmp := fun t => by simpa [env0] using simL_getD hargs t }
  refine (FnP k ht (args := vs) (by rw [← hargs.len]; exact hle) s1 h).mono fun v H' hk => ?_
  obtain ⟨a, st', ρ', g', s', r', hv, hka⟩ := hk
  exact ⟨a, ⟨st.α, st'.σ⟩, g', { s' with tmp := fun t => SimV.ext r'.len r'.ext _ _ (s.tmp t) }, ⟨r'.len, r'.ext, r'.ro⟩, hv, rfl, hka⟩

end Go.Sh
