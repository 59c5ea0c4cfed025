/- That the worked examples of the chapter hold. Conditions: none. -/
import Derived.Test.YtkeildnpemiacaaMe
namespace Go.Proofs.Ytkeildnpemiacaa.Ev
open Go.Proofs
set_option linter.unusedVariables false
set_option maxRecDepth 100000
set_option maxHeartbeats 0

/-- What is known already, as the base of a chain of functions that are run. -/
def base : List (FuncId × Spec) := [(65, gate pEl sEp), (64, gate (pT dKell) sEl), (48, gate pF sF), (56, gate (pT dII) (sp dII fun a => iv (sizeE a.1 a.2))), (46, gate (pT dQ) (sp dQ fun a => bw (valid a))), (47, gate (pT dQ) (sp dQ fun a => bw (empty a))), (62, gate (pT dQP) (sp dQP fun a => bw (has a.1 a.2))),
  (66, gate pD (sp dII fun a => iv (divP a.1 a.2))), (30, gate (pT dM) (sp dM fun m => iv (checkM m))), (50, gate pG sG)]
theorem base_ok : ∀ f, Meets Try.prog f (specsOf base f) := specs_cons m65 (specs_cons m64 (specs_cons m48 (specs_cons m56 (specs_cons m46 (specs_cons m47 (specs_cons m62 (specs_cons m66 (specs_cons m30 (specs_cons m50 specs_nil)))))))))
noncomputable def ran : List (FuncId × Func) := [(54, Try.f54), (42, Try.f42), (82, Try.f82), (81, Try.f81), (41, Try.f41), (17, Try.f17), (40, Try.f40), (38, Try.f38), (79, Try.f79), (104, Try.f104), (36, Try.f36), (76, Try.f76), (99, Try.f99), (107, Try.f107), (75, Try.f75), (97, Try.f97), (98, Try.f98), (103, Try.f103), (96, Try.f96),
  (34, Try.f34), (74, Try.f74), (32, Try.f32), (72, Try.f72), (70, Try.f70), (71, Try.f71), (69, Try.f69), (28, Try.f28), (26, Try.f26), (61, Try.f61), (24, Try.f24), (60, Try.f60), (20, Try.f20), (18, Try.f18)]
theorem ran_ok : chainB Try.prog ran := by
  unfold ran chainB
  repeat (refine ⟨⟨by kernel_rfl, by kernel_rfl, by kernel_rfl⟩, ?_⟩)
  exact trivial
theorem t16 : evalF (ownE T (chain T base ran) Try.f16) Try.f16 [] = ob true := by kernel_rfl
theorem loops16 : loopsOf Try.f16 = [] := by kernel_rfl
@[reducible] def n0 (_ : Unit) : List AV := []
def d0 : List AV → Option Unit
  | [] => some ()
  | _ => none
theorem h0 {us : List AV} {a} (h : d0 us = some a) : us = n0 a := by unfold d0 at h; split at h <;> cases h; rfl
theorem m16 : Meets Try.prog 16 (gate (pT d0) (sp d0 fun _ => bw true)) := mG (rdL (e := ownE T (chain T base ran) Try.f16) rfl (chain_ok hT hM base_ok ran ran_ok) (fn := Try.f16) (k := 0) (by kernel_rfl) (by kernel_rfl) (of_decide_eq_true (by kernel_rfl)) loops16 (fun p hp => nomatch hp)) (fun _ _ => h0) (fun _ => ⟨rfl, Nat.le_refl _⟩)
  fun _ _ => t16
end Go.Proofs.Ytkeildnpemiacaa.Ev
