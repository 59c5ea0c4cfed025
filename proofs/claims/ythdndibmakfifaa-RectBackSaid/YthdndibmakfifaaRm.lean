/- The functions' contracts, each met: layer by layer. Conditions: none. -/
import Derived.Test.YthdndibmakfifaaRh
import Derived.Test.YthdndibmakfifaaRk
import Derived.Test.YthdndibmakfifaaRl
namespace Go.Proofs.Ythdndibmakfifaa.Ev
open Go.Proofs
set_option linter.unusedVariables false
set_option maxRecDepth 100000

theorem rdE {l : List (FuncId × Spec)} (hl : ∀ f, Meets Try.prog f (specsOf l f)) {n : FuncId} {fn : Func} {k : Nat} (hf : Try.prog.funcs[n]? = some fn) (hn : (fn.name == "runtime.NumGoroutine") = false) (hk : k ≤ fn.ntmps) (h0 : loopsOf fn = []) : Ready (E l) n fn k :=
  ⟨hT, hl, hf, hn, hk, by rw [h0]; exact fun p hp => nomatch hp⟩
theorem rdL {e : Env} (he : e.T = T) (hl : ∀ f, Meets Try.prog f (e.sp f)) {n : FuncId} {fn : Func} {k : Nat} (hf : Try.prog.funcs[n]? = some fn) (hn : (fn.name == "runtime.NumGoroutine") = false) (hk : k ≤ fn.ntmps) {ls : List (Nat × Code)} (h0 : loopsOf fn = ls)
    (h : ∀ p ∈ ls, LoopOk e p.1 p.2) : Ready e n fn k :=
  ⟨by rw [he]; exact hT, hl, hf, hn, hk, by rw [h0]; exact h⟩
theorem ok0 : ∀ f, Meets Try.prog f (specsOf L0 f) := specs_nil
theorem m39 : Meets Try.prog 39 (sII fun a b => bw (spn a b)) := mII (rdE ok0 (n := 39) (fn := Try.f39) (k := 2) (by kernel_rfl) (by kernel_rfl) (of_decide_eq_true (by kernel_rfl)) (by kernel_rfl)) e39
theorem m14 : Meets Try.prog 14 (sR fun r => bw (valid r)) := mR (rdE ok0 (n := 14) (fn := Try.f14) (k := 1) (by kernel_rfl) (by kernel_rfl) (of_decide_eq_true (by kernel_rfl)) (by kernel_rfl)) e14
theorem m44 : Meets Try.prog 44 (sIIII fun a b c d => qv (between a b c d)) := mIIII (rdE ok0 (n := 44) (fn := Try.f44) (k := 4) (by kernel_rfl) (by kernel_rfl) (of_decide_eq_true (by kernel_rfl)) (by kernel_rfl)) e44
theorem m43 : Meets Try.prog 43 (sIIII fun a b c d => qv (ofQ a b c d)) := mIIII (rdE ok0 (n := 43) (fn := Try.f43) (k := 4) (by kernel_rfl) (by kernel_rfl) (of_decide_eq_true (by kernel_rfl)) (by kernel_rfl)) e43
theorem m45 : Meets Try.prog 45 (sI fun n => iv (limit n)) := mI (rdE ok0 (n := 45) (fn := Try.f45) (k := 1) (by kernel_rfl) (by kernel_rfl) (of_decide_eq_true (by kernel_rfl)) (by kernel_rfl)) t45
theorem m46 : Meets Try.prog 46 (s0 (qv worldQ)) := m0 (rdE ok0 (n := 46) (fn := Try.f46) (k := 0) (by kernel_rfl) (by kernel_rfl) (of_decide_eq_true (by kernel_rfl)) (by kernel_rfl)) t46
theorem m48 : Meets Try.prog 48 (sI fun n => iv (lim3 n)) := mI (rdE ok0 (n := 48) (fn := Try.f48) (k := 1) (by kernel_rfl) (by kernel_rfl) (of_decide_eq_true (by kernel_rfl)) (by kernel_rfl)) t48
theorem m49 : Meets Try.prog 49 (sI fun n => iv (tileR n)) := mI (rdE ok0 (n := 49) (fn := Try.f49) (k := 1) (by kernel_rfl) (by kernel_rfl) (of_decide_eq_true (by kernel_rfl)) (by kernel_rfl)) t49
theorem m34 : Meets Try.prog 34 (sP fun r => qv (ofTile r)) := mP (rdE ok0 (n := 34) (fn := Try.f34) (k := 1) (by kernel_rfl) (by kernel_rfl) (of_decide_eq_true (by kernel_rfl)) (by kernel_rfl)) e34
theorem m35 : Meets Try.prog 35 (sP fun r => qv (ofTile r)) := mP (rdE ok0 (n := 35) (fn := Try.f35) (k := 1) (by kernel_rfl) (by kernel_rfl) (of_decide_eq_true (by kernel_rfl)) (by kernel_rfl)) e35
theorem m31 : Meets Try.prog 31 (sQQ fun l m => bw (sameQ l m)) := mQQ (rdL (e := E31) rfl ok0 (n := 31) (fn := Try.f31) (k := 2) (by kernel_rfl) (by kernel_rfl) (of_decide_eq_true (by kernel_rfl)) (show loopsOf Try.f31 = [(0, loopAt Try.f31 0)] by kernel_rfl) (fun p hp => by cases List.mem_singleton.mp hp; exact loop31)) e31
theorem m36 : Meets Try.prog 36 (sPP fun l m => bw (sameP l m)) := mPP (rdL (e := E36) rfl ok0 (n := 36) (fn := Try.f36) (k := 2) (by kernel_rfl) (by kernel_rfl) (of_decide_eq_true (by kernel_rfl)) (show loopsOf Try.f36 = [(0, loopAt Try.f36 0)] by kernel_rfl) (fun p hp => by cases List.mem_singleton.mp hp; exact loop36)) e36
theorem ok1 : ∀ f, Meets Try.prog f (specsOf L1 f) := specs_cons m39 ( specs_cons m14 ( specs_cons m44 ( specs_cons m43 ( specs_cons m45 ( specs_cons m46 ( specs_cons m48 ( specs_cons m49 ( specs_cons m34 ( specs_cons m35 ( specs_cons m31 ( specs_cons m36 (ok0))))))))))))
theorem m13 : Meets Try.prog 13 (sR fun r => bw (valid r)) := mR (rdE ok1 (n := 13) (fn := Try.f13) (k := 1) (by kernel_rfl) (by kernel_rfl) (of_decide_eq_true (by kernel_rfl)) (by kernel_rfl)) e13
theorem ok2 : ∀ f, Meets Try.prog f (specsOf L2 f) := specs_cons m13 (ok1)
theorem m40 : Meets Try.prog 40 (sR fun r => qv (known r)) := mR (rdE ok2 (n := 40) (fn := Try.f40) (k := 1) (by kernel_rfl) (by kernel_rfl) (of_decide_eq_true (by kernel_rfl)) (by kernel_rfl)) e40
theorem m16 : Meets Try.prog 16 (sR fun r => bw (empty r)) := mR (rdE ok2 (n := 16) (fn := Try.f16) (k := 1) (by kernel_rfl) (by kernel_rfl) (of_decide_eq_true (by kernel_rfl)) (by kernel_rfl)) e16
theorem m41 : Meets Try.prog 41 (sRI fun r n => tv (rlo r n) (rhi r n)) := mRI (rdE ok2 (n := 41) (fn := Try.f41) (k := 2) (by kernel_rfl) (by kernel_rfl) (of_decide_eq_true (by kernel_rfl)) (by kernel_rfl)) e41
theorem ok3 : ∀ f, Meets Try.prog f (specsOf L3 f) := specs_cons m40 ( specs_cons m16 ( specs_cons m41 (ok2)))
theorem m15 : Meets Try.prog 15 (sR fun r => bw (empty r)) := mR (rdE ok3 (n := 15) (fn := Try.f15) (k := 1) (by kernel_rfl) (by kernel_rfl) (of_decide_eq_true (by kernel_rfl)) (by kernel_rfl)) e15
theorem m17 : Meets Try.prog 17 (sRP fun r p => bw (has r p)) := mRP (rdE ok3 (n := 17) (fn := Try.f17) (k := 2) (by kernel_rfl) (by kernel_rfl) (of_decide_eq_true (by kernel_rfl)) (by kernel_rfl)) e17
theorem m19 : Meets Try.prog 19 (sR fun r => iv (area r)) := mR (rdE ok3 (n := 19) (fn := Try.f19) (k := 1) (by kernel_rfl) (by kernel_rfl) (of_decide_eq_true (by kernel_rfl)) (by kernel_rfl)) e19
theorem m18 : Meets Try.prog 18 (sRP fun r p => bw (has r p)) := mRP (rdE ok3 (n := 18) (fn := Try.f18) (k := 2) (by kernel_rfl) (by kernel_rfl) (of_decide_eq_true (by kernel_rfl)) (by kernel_rfl)) e18
theorem m20 : Meets Try.prog 20 (sR fun r => iv (area r)) := mR (rdE ok3 (n := 20) (fn := Try.f20) (k := 1) (by kernel_rfl) (by kernel_rfl) (of_decide_eq_true (by kernel_rfl)) (by kernel_rfl)) e20
theorem m42 : Meets Try.prog 42 (sRR fun a b => qv (meet a b)) := mRR (rdE ok3 (n := 42) (fn := Try.f42) (k := 2) (by kernel_rfl) (by kernel_rfl) (of_decide_eq_true (by kernel_rfl)) (by kernel_rfl)) t42
theorem m47 : Meets Try.prog 47 (sIIII fun a b c d => qv (worldR a b c d)) := mIIII (rdE ok3 (n := 47) (fn := Try.f47) (k := 4) (by kernel_rfl) (by kernel_rfl) (of_decide_eq_true (by kernel_rfl)) (by kernel_rfl)) t47
theorem ok4 : ∀ f, Meets Try.prog f (specsOf L4 f) := specs_cons m15 ( specs_cons m17 ( specs_cons m19 ( specs_cons m18 ( specs_cons m20 ( specs_cons m42 ( specs_cons m47 (ok3)))))))
theorem m21 : Meets Try.prog 21 (sRR fun a b => bw (within a b)) := mRR (rdE ok4 (n := 21) (fn := Try.f21) (k := 2) (by kernel_rfl) (by kernel_rfl) (of_decide_eq_true (by kernel_rfl)) (by kernel_rfl)) e21
theorem m22 : Meets Try.prog 22 (sRR fun a b => bw (within a b)) := mRR (rdE ok4 (n := 22) (fn := Try.f22) (k := 2) (by kernel_rfl) (by kernel_rfl) (of_decide_eq_true (by kernel_rfl)) (by kernel_rfl)) e22
theorem m23 : Meets Try.prog 23 (sRR fun a b => qv (meetR a b)) := mRR (rdE ok4 (n := 23) (fn := Try.f23) (k := 2) (by kernel_rfl) (by kernel_rfl) (of_decide_eq_true (by kernel_rfl)) (by kernel_rfl)) e23
theorem m24 : Meets Try.prog 24 (sRR fun a b => qv (meetR a b)) := mRR (rdE ok4 (n := 24) (fn := Try.f24) (k := 2) (by kernel_rfl) (by kernel_rfl) (of_decide_eq_true (by kernel_rfl)) (by kernel_rfl)) e24
theorem m25 : Meets Try.prog 25 (sRR fun a b => qv (join a b)) := mRR (rdE ok4 (n := 25) (fn := Try.f25) (k := 2) (by kernel_rfl) (by kernel_rfl) (of_decide_eq_true (by kernel_rfl)) (by kernel_rfl)) e25
theorem m26 : Meets Try.prog 26 (sRR fun a b => qv (join a b)) := mRR (rdE ok4 (n := 26) (fn := Try.f26) (k := 2) (by kernel_rfl) (by kernel_rfl) (of_decide_eq_true (by kernel_rfl)) (by kernel_rfl)) e26
theorem m27 : Meets Try.prog 27 (sRP fun r p => qv (move r p)) := mRP (rdE ok4 (n := 27) (fn := Try.f27) (k := 2) (by kernel_rfl) (by kernel_rfl) (of_decide_eq_true (by kernel_rfl)) (by kernel_rfl)) e27
theorem m28 : Meets Try.prog 28 (sRP fun r p => qv (move r p)) := mRP (rdE ok4 (n := 28) (fn := Try.f28) (k := 2) (by kernel_rfl) (by kernel_rfl) (of_decide_eq_true (by kernel_rfl)) (by kernel_rfl)) e28
theorem m29 : Meets Try.prog 29 (sRI fun r p => qv (grow r p)) := mRI (rdE ok4 (n := 29) (fn := Try.f29) (k := 2) (by kernel_rfl) (by kernel_rfl) (of_decide_eq_true (by kernel_rfl)) (by kernel_rfl)) e29
theorem m30 : Meets Try.prog 30 (sRI fun r p => qv (grow r p)) := mRI (rdE ok4 (n := 30) (fn := Try.f30) (k := 2) (by kernel_rfl) (by kernel_rfl) (of_decide_eq_true (by kernel_rfl)) (by kernel_rfl)) e30
theorem ok5 : ∀ f, Meets Try.prog f (specsOf L5 f) := specs_cons m21 ( specs_cons m22 ( specs_cons m23 ( specs_cons m24 ( specs_cons m25 ( specs_cons m26 ( specs_cons m27 ( specs_cons m28 ( specs_cons m29 ( specs_cons m30 (ok4))))))))))
theorem m32 : Meets Try.prog 32 (sRR fun a b => qsv (minus a b)) := mRR (rdL (e := E32) rfl ok5 (n := 32) (fn := Try.f32) (k := 2) (by kernel_rfl) (by kernel_rfl) (of_decide_eq_true (by kernel_rfl)) (show loopsOf Try.f32 = [(0, loopAt Try.f32 0)] by kernel_rfl) (fun p hp => by cases List.mem_singleton.mp hp; exact loop32)) e32
theorem m33 : Meets Try.prog 33 (sRR fun a b => qsv (minus a b)) := mRR (rdL (e := E33) rfl ok5 (n := 33) (fn := Try.f33) (k := 2) (by kernel_rfl) (by kernel_rfl) (of_decide_eq_true (by kernel_rfl)) (show loopsOf Try.f33 = [(0, loopAt Try.f33 0)] by kernel_rfl) (fun p hp => by cases List.mem_singleton.mp hp; exact loop33)) e33
theorem m37 : Meets Try.prog 37 (sR fun r => psv (tiles r)) := mR (rdL (e := E37) rfl ok5 (n := 37) (fn := Try.f37) (k := 1) (by kernel_rfl) (by kernel_rfl) (of_decide_eq_true (by kernel_rfl)) (show loopsOf Try.f37 = [(0, loopAt Try.f37 0), (2, loopAt Try.f37 1)] by kernel_rfl) (fun p hp => by
  rcases List.mem_cons.mp hp with h | h
  · cases h; exact loop37o
  · cases List.mem_singleton.mp h; exact loop37i)) e37
theorem m38 : Meets Try.prog 38 (sR fun r => psv (tiles r)) := mR (rdL (e := E38) rfl ok5 (n := 38) (fn := Try.f38) (k := 1) (by kernel_rfl) (by kernel_rfl) (of_decide_eq_true (by kernel_rfl)) (show loopsOf Try.f38 = [(0, loopAt Try.f38 0), (2, loopAt Try.f38 1)] by kernel_rfl) (fun p hp => by
  rcases List.mem_cons.mp hp with h | h
  · cases h; exact loop38o
  · cases List.mem_singleton.mp h; exact loop38i)) e38
theorem ok6 : ∀ f, Meets Try.prog f (specsOf L6 f) := specs_cons m32 ( specs_cons m33 ( specs_cons m37 ( specs_cons m38 (ok5))))
theorem m12 : Meets Try.prog 12 (s0 (bw true)) := m0 (rdE ok6 (n := 12) (fn := Try.f12) (k := 0) (by kernel_rfl) (by kernel_rfl) (of_decide_eq_true (by kernel_rfl)) (by kernel_rfl)) t12
theorem ok7 : ∀ f, Meets Try.prog f (specsOf L7 f) := specs_cons m12 (ok6)
end Go.Proofs.Ythdndibmakfifaa.Ev
