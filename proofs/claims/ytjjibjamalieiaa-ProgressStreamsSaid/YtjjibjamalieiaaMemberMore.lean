/- More of progress: Sent where it streams; rows of words. -/
import Derived.Test.YtjjibjamalieiaaMember
import Derived.Deep.RegionWith
import Derived.ChangeOld
import Derived.OpenShut
namespace Go.Proofs.Ytjjibjamalieiaa
open Go Go.RowKit
set_option linter.unusedVariables false
set_option linter.unusedSimpArgs false
set_option maxRecDepth 100000
theorem sent2_any (p : Pg) (h1 : p.md = 2) (n : Int) (b : Nat) (w : World) (hb : PB w b p) (h0 : 0 ≤ p.nx) (hx : p.nx ≤ most) : Calls Try.prog 25 #[.pointer (some ⟨b, 0, none⟩), .int .i64 n] w fun e w' => e = .returned (.tuple #[]) ∧ PB w' b { p with nx := cutF (p.nx + cutF n) } ∧ Only b w w' := by
  obtain ⟨nx, mt, md, un, sn⟩ := p
  subst h1
  have hc := cutF_range n
  have hw : IntKind.i64.wrap (nx + cutF n) = nx + cutF n := IntWalk.i64_in _ (by have : 0 ≤ nx := h0; have : nx ≤ most := hx; unfold most at *; omega)
  have q0 := hb.c0
  have q2 := hb.c2
  have f0 := hb.frozen 0
  have HB := Lib.hid hb
  clear hb hc h0 hx
  generalize hcn : cutF n = c at *
  have HC := Lib.hid hcn
  clear hcn
  go_enter Try.func25, Try.ntmps25
  go_upto_region 5 with (go_at_call 38; refine (made_any _ b _ HB.out).mono ?_; rintro e w' ⟨rfl, rfl⟩)
  go_region_with (first | (go_at_call_of 37 (Value.int .i64 n); refine (cut_any n _).mono ?_; rintro e w' ⟨rfl, rfl⟩; rw [HC.out]) | (go_at_call_of 37 (Value.int .i64 (nx + c)); refine (cut_any _ _).mono ?_; rintro e w' ⟨rfl, rfl⟩))
  all_goals
    go_wp2
    refine bodyPost_end (v := .tuple #[]) (by simp [results, Try.results25, go_sem]) rfl ⟨rfl, ?_, ?_⟩
    · exact HB.out.s0 _
    · exact ((Only.refl b w).set (p := ⟨b, 0, none⟩) rfl _).drew
/-- A slice of words that came in. -/
def IsRow (w : World) (a : Option Addr) (len cap : Nat) (zs : List Int) : Prop :=
  (a = none ∧ len = 0 ∧ cap = 0 ∧ zs = []) ∨
  ∃ x, a = some x ∧ len ≤ cap ∧ cap ≤ maxLen ∧ zs.length = cap ∧ (∀ i, i < zs.length → w.cell? (x.add i) = some (.int .u64 (zs.getD i 0))) ∧ ∀ n ∈ zs, (Lit.int .u64 n).wf = true
theorem IsRow.at {w : World} {a : Option Addr} {len cap : Nat} {zs : List Int} (h : IsRow w a len cap zs) {k : Nat} (hk : k < len) : ∃ (b off : Nat) (z : Int), a = some ⟨b, off, none⟩ ∧ w.cell? ⟨b, off + k, none⟩ = some (.int .u64 z) ∧ b < w.heap.size ∧ 0 ≤ z ∧ z ≤ 18446744073709551615 := by
  rcases h with ⟨_, rfl, _, _⟩ | ⟨x, rfl, hl, hm, hz, hcell, hwz⟩
  · omega
  · obtain ⟨b, off, spot⟩ := x
    have hc00 := hcell 0 (by omega)
    have hspot : spot = none := by simpa [Addr.add] using World.cell?_spot hc00
    subst hspot
    have hadd : (⟨b, off, none⟩ : Addr).add k = ⟨b, off + k, none⟩ := by unfold Addr.add; split <;> simp_all
    have hc0 : w.cell? ⟨b, off + k, none⟩ = some (.int .u64 (zs.getD k 0)) := by rw [← hadd]; exact hcell k (by omega)
    refine ⟨b, off, _, rfl, hc0, ?_, ?_⟩
    · unfold World.cell? at hc0
      cases e : w.heap[b]? with
      | none => simp [e] at hc0
      | some o => exact (Array.getElem?_eq_some_iff.1 e).1
    · have hmem : zs.getD k 0 ∈ zs := by
        rw [List.getD_eq_getElem?_getD, List.getElem?_eq_getElem (by omega)]; simp
      exact Go.bounds_u64 (hwz _ hmem)
end Go.Proofs.Ytjjibjamalieiaa
