/- '==' of two arrays of four words. -/
import Derived.Test.YtcooapflofiolaaDoorSSum
import Derived.ChangeKeysEq
namespace Go.Proofs.YtcooapflofiolaaDoor.Sip
open Go Go.RowKit
set_option linter.unusedVariables false
set_option linter.unusedSimpArgs false
set_option maxRecDepth 100000
set_option maxHeartbeats 2000000
/-- Four words alike. -/
def eqB (a b c d a' b' c' d' : Int) : Bool := a == a' && (b == b' && (c == c' && d == d'))
theorem eqB_yes (v : St) : eqB (U v.a) (U v.b) (U v.c) (U v.d) (U v.a) (U v.b) (U v.c) (U v.d) = true := by simp [eqB]
theorem eqB_zero (v : St) (h : eqB (U v.a) (U v.b) (U v.c) (U v.d) 0 0 0 0 = true) : v = ⟨0, 0, 0, 0⟩ := by
  obtain ⟨a, b, c, d⟩ := v
  simp only [eqB, Bool.and_eq_true, beq_iff_eq] at h
  have e := fun x : BitVec 64 => fun (hx : U x = 0) => U_inj (x := x) (y := 0) (by rw [hx]; rfl)
  rw [e a h.1, e b h.2.1, e c h.2.2.1, e d h.2.2.2]
@[go_sem] theorem eql_arr (a b c d a' b' c' d' : Int) (w : World) : (Op.equalIn 10000 152 (.agg #[.int .u64 a, .int .u64 b, .int .u64 c, .int .u64 d]) (.agg #[.int .u64 a', .int .u64 b', .int .u64 c', .int .u64 d'])).run Tryd.prog w = .ok (eqB a b c d a' b' c' d') w := by
  have h1 := run_equalIn_array (P := Tryd.prog) w 9999 (t := 152) (e := 22) (n := 4) (i := (Tryd.prog.info? 22).get (by kernel_rfl)) #[.int .u64 a, .int .u64 b, .int .u64 c, .int .u64 d] #[.int .u64 a', .int .u64 b', .int .u64 c', .int .u64 d'] (by kernel_rfl) (by kernel_rfl)
  have hc : Tryd.prog.cellsOf 22 = 1 := by kernel_rfl
  have hu : Tryd.prog.underlying 22 = some (.int .u64) := by kernel_rfl
  have he := fun (x y : Int) (w : World) => run_equalIn_int (P := Tryd.prog) w 9998 22 .u64 .u64 x y hu
  rw [show (10000 : Nat) = 9999 + 1 from rfl, h1, hc]
  simp only [show List.range 4 = [0, 1, 2, 3] by decide, Op.eqItems]
  have hu2 : ∀ w, (isAgg 22).run Tryd.prog w = .ok false w := fun w => by unfold isAgg; rw [Sem.run_bind, run_underlying hu]; rfl
  simp only [Sem.run_bind, part, hu2, Result.andThen_ok]
  simp [go_sem, he]
  unfold eqB
  by_cases e1 : a = a' <;> by_cases e2 : b = b' <;> by_cases e3 : c = c' <;> by_cases e4 : d = d' <;> simp [e1, e2, e3, e4]
end Go.Proofs.YtcooapflofiolaaDoor.Sip
