/- Are two entries alike. -/
import Derived.Test.YtbgfpmnicpmieaaECompact
namespace Go.Proofs.Ytbgfpmnicpmieaa
open Go Go.RowKit Go.Shelf Go.Sort
set_option linter.unusedVariables false
set_option linter.unusedSimpArgs false
set_option maxRecDepth 100000
set_option maxHeartbeats 1000000
def sameE (e f : Ent) : Bool := e.i == f.i && (e.t == f.t && (e.k == f.k && (cmdB e.ck e.cs e.cq e.a e.b e.c e.d e.l f.ck f.cs f.cq f.a f.b f.c f.d f.l && (decide (e.V = f.V) && decide (e.L = f.L)))))
theorem sameE_self (e : Ent) : sameE e e = true := by simp [sameE, cmdB]
theorem sameE_any (e f : Ent) (w : World) (he : EK w e) (hf : EK w f) (h1 : e.vn ≤ 1000 ∧ e.ln ≤ 1000) (h2 : f.vn ≤ 1000 ∧ f.ln ≤ 1000) : Calls Try.prog 20 #[e.v, f.v] w fun r w' => r = .returned (.bool (sameE e f)) ∧ Below w.heap.size w w' := by
  have L1 : Hid (Below w.heap.size w ((w.alloc (.cells e.cs'.toArray 37)).alloc (.cells f.cs'.toArray 37))) := ((Below.refl _ w).alloc (Nat.le_refl _) _).alloc (by simp) _
  have E1 := Lib.hid (he.keep (Nat.le_refl _) L1.out)
  have F1 := Lib.hid (hf.keep (Nat.le_refl _) L1.out)
  have H1 := Lib.hid h1
  have H2 := Lib.hid h2
  have HS : Hid (sameE e f = (e.i == f.i && (e.t == f.t && (e.k == f.k && (cmdB e.ck e.cs e.cq e.a e.b e.c e.d e.l f.ck f.cs f.cq f.a f.b f.c f.d f.l && (decide (e.V = f.V) && decide (e.L = f.L))))))) := rfl
  generalize sameE e f = r at *
  have Q32 := Lib.hid comEq
  clear he hf h1 h2
  obtain ⟨i, t, k, ck, cs, cq, a, b, c, d, l, va, vn, vc, la, ln, lc, V, L⟩ := e
  obtain ⟨i', t', k', ck', cs', cq', a', b', c', d', l', va', vn', vc', la', ln', lc', V', L'⟩ := f
  dsimp only at *
  have q32 : ∀ w, (binOp .eql 32 (cmdV ck cs cq a b c d l) (cmdV ck' cs' cq' a' b' c' d' l')).run Try.prog w = .ok (.bool (cmdB ck cs cq a b c d l ck' cs' cq' a' b' c' d' l')) w := fun w => Q32.out _ _ _ _ _ _ _ _ _ _ _ _ _ _ _ _ w
  clear Q32
  go_enter Try.func20, Try.ntmps20
  cases d1 : i == i'
  · have D1 := Lib.hid d1
    go_wp2_with fail
    clear q32
    go_ret
    exact ⟨ret_bool (by rw [HS.out, D1.out]; rfl), L1.out⟩
  have D1 := Lib.hid d1
  cases d2 : t == t'
  · have D2 := Lib.hid d2
    go_wp2_with fail
    clear q32
    go_ret
    exact ⟨ret_bool (by rw [HS.out, D1.out, D2.out]; rfl), L1.out⟩
  have D2 := Lib.hid d2
  cases d3 : k == k'
  · have D3 := Lib.hid d3
    go_wp2_with fail
    clear q32
    go_ret
    exact ⟨ret_bool (by rw [HS.out, D1.out, D2.out, D3.out]; rfl), L1.out⟩
  have D3 := Lib.hid d3
  cases d4 : cmdB ck cs cq a b c d l ck' cs' cq' a' b' c' d' l'
  · have D4 := Lib.hid d4
    rw [d4] at q32
    clear d4
    go_wp2_with fail
    clear q32
    go_ret
    exact ⟨ret_bool (by rw [HS.out, D1.out, D2.out, D3.out, D4.out]; rfl), L1.out⟩
  have D4 := Lib.hid d4
  rw [d4] at q32
  clear d4
  go_wp2_with fail
  clear q32
  refine (same_any va vn vc V la ln lc L va' vn' vc' V' la' ln' lc' L' _ E1.out.v E1.out.l F1.out.v F1.out.l H1.out.1 H1.out.2 H2.out.1 H2.out.2).mono ?_
  rintro e w1 ⟨rfl, hb⟩
  have L2 := Lib.hid (L1.out.trans (hb.mono L1.out.size))
  clear hb d1 d2 d3
  go_wp2_with fail
  go_ret
  exact ⟨ret_bool (by rw [HS.out, D1.out, D2.out, D3.out, D4.out]; rfl), L2.out⟩
end Go.Proofs.Ytbgfpmnicpmieaa
