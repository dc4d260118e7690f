/- Reads that wait: NewReads, made, Len, Add. -/
import Derived.Test.YtbjhpifllgoffaaWin
import Derived.Test.YtbjhpifllgoffaaMaj
import Derived.Maps.Own
import Derived.Maps.OwnOps
import Derived.Maps.OwnSet
import Derived.Maps.Views
namespace Go.Proofs.Ytbjhpifllgoffaa
open Go Go.RowKit Go.Maps
set_option linter.unusedVariables false
set_option linter.unusedSimpArgs false
set_option maxRecDepth 100000
set_option maxHeartbeats 1000000
theorem newreads_any (w : World) : Calls Try.prog 13 #[] w fun e w' => e = .returned (.pointer (some ⟨w.heap.size + 1, 0, none⟩)) ∧ ∃ o, w' = (w.alloc o).alloc (.cells #[.slice none 0 0, .map (some w.heap.size)] 69) ∧ (w.alloc o).ownsMap Try.prog 3 (plainElem (H := Unit) Try.prog 3) w.heap.size 0 (.map []) := by
  have hmm := @run_makeMap Try.prog
  go_enter Try.func13, Try.ntmps13
  go_wp2
  go_ret
  refine ⟨rfl, _, rfl, World.ownsMap_made _ _ _ _⟩
theorem rmade_any (b mb : Nat) (w : World) (h : w.cell? ⟨b, 1, none⟩ = some (.map (some mb))) : Calls Try.prog 30 #[.pointer (some ⟨b, 0, none⟩)] w fun e w' => e = .returned (.bool true) ∧ w = w' := by
  have q := fun (w : World) (r : Option Nat) => run_neq_map_nil (P := Try.prog) w 67 3 3 r Try.underlying67
  go_enter Try.func30, Try.ntmps30
  go_wp2
  go_ret
  exact ⟨rfl, rfl⟩
theorem rlen_any (b mb n c : Nat) (a : Option Addr) (w : World) (h : w.cell? ⟨b, 1, none⟩ = some (.map (some mb))) (hl : w.cell? ⟨b, 0, none⟩ = some (.slice a n c)) : Calls Try.prog 18 #[.pointer (some ⟨b, 0, none⟩)] w fun e w' => e = .returned (.int .i64 n) ∧ w = w' := by
  go_enter Try.func18, Try.ntmps18
  go_wp2_with (go_at_call 30; refine (rmade_any b mb _ h).mono ?_; rintro e w2 ⟨rfl, rfl⟩)
  go_ret
  exact ⟨rfl, rfl⟩
/-! ### what each has said -/
/-- What a map as read holds. -/
def MR (D : DataW Unit) (m : Int → Option Int) : Prop := IsMap D ∧ (∀ n, (Lit.int .i64 n).wf = true → Maps.has D (.int .i64 n) = (m n).isSome ∧ D.atKey (.int .i64 n) (.lit (.int .i64 0)) = .lit (.int .i64 ((m n).getD 0))) ∧ ∀ n, (m n).isSome = true → (Lit.int .i64 n).wf = true
/-- One has said a round. -/
def hear (m : Int → Option Int) (f r : Int) : Int → Option Int := fun n => if n = f then some (match m f with | none => r | some x => if x < r then r else x) else m n
theorem MR.empty : MR (.map []) fun _ => none := ⟨isMap_empty, fun n hn => ⟨rfl, by rw [atKey_of_not_has (by rfl)]; rfl⟩, fun n h => by cases h⟩
theorem MR.put {D : DataW Unit} {m : Int → Option Int} {f r : Int} (h : MR D m) (hf : (Lit.int .i64 f).wf = true) (hr : hear m f r f = some r) : MR (D.put (.int .i64 f) (.lit (.int .i64 r))) (hear m f r) := by
  have hk : WideAt.IsKeyLit (.int .i64 f) := trivial
  refine ⟨h.1.put _ _, fun n hn => ?_, fun n hn => ?_⟩
  rotate_left
  · unfold hear at hn
    split at hn
    · rename_i e; subst e; exact hf
    · exact h.2.2 n hn
  by_cases e : n = f
  · subst e
    rw [hr, has_put_same h.1 hk, atKey_put_same h.1 hk]
    exact ⟨rfl, rfl⟩
  · have hne : (Lit.int .i64 n) ≠ (Lit.int .i64 f) := fun h => e (by injection h)
    rw [has_put_other hne, atKey_put_other hne]
    have : hear m f r n = m n := by unfold hear; rw [if_neg e]
    rw [this]
    exact h.2.1 n hn
theorem hear_old {m : Int → Option Int} {f r x : Int} (h : m f = some x) (hx : ¬ x < r) : hear m f r = m := by
  funext n
  unfold hear
  split
  · rename_i e; subst e; rw [h]; simp [hx]
  · rfl
theorem law3 : Keyed Try.prog 3 := int_keyed Try.underlying3
theorem zero3 (w : World) : (zeroValue 3).run Try.prog w = .ok (.int .i64 0) w := by kernel_rfl
theorem owns_more {w : World} {mb k : Nat} {D : DataW Unit} (h : w.ownsMap Try.prog 3 (plainElem Try.prog 3) mb k D) : w.ownsMap Try.prog 3 (plainElem Try.prog 3) mb (k + 1) D := by
  obtain ⟨es, cl, h1, h2, h3, h4⟩ := h
  exact ⟨es, cl, h1, h2, Nat.le_succ_of_le h3, h4⟩
theorem rsaid_any (b mb k : Nat) (D : DataW Unit) (m : Int → Option Int) (f r : Int) (w : World) (h : w.cell? ⟨b, 1, none⟩ = some (.map (some mb))) (hown : w.ownsMap Try.prog 3 (plainElem Try.prog 3) mb k D) (hm : MR D m) (hk : k < 100000) (hf : (Lit.int .i64 f).wf = true) (hr : (Lit.int .i64 r).wf = true) :
    Calls Try.prog 15 #[.pointer (some ⟨b, 0, none⟩), .int .i64 f, .int .i64 r] w fun e w' => e = .returned (.tuple #[]) ∧ ∃ D', w'.ownsMap Try.prog 3 (plainElem Try.prog 3) mb (k + 1) D' ∧ MR D' (hear m f r) ∧ w.mapTurned w' mb := by
  have hkey := keyOf_int_mk Try.underlying3 hf
  obtain ⟨h1, h2⟩ := hm.2.1 f hf
  have HM := Lib.hid hm
  clear hm
  have hkm : k < maxLen := by unfold maxLen; omega
  cases e : m f with
  | none =>
    rw [e] at h1 h2
    have HP : Hid (MR (D.put (.int .i64 f) (.lit (.int .i64 r))) (hear m f r)) := HM.out.put hf (by unfold hear; simp [e])
    have H1 : Hid (Maps.has D (.int .i64 f) = false) := h1
    clear h1 h2 e
    go_enter Try.func15, Try.ntmps15
    go_wp2_with (first
      | (go_at_call 30; refine (rmade_any b mb _ h).mono ?_; rintro e w2 ⟨rfl, rfl⟩)
      | (at_lookup; refine wpList_lookup_own_ok_int _ rfl _ _ 67 rfl 3 3 .i64 law3 Try.underlying67 Try.underlying3 (zero3 _) mb k D rfl hown _ _ rfl hkey ?_; intro c hat hwc; rw [H1.out])
      | (at_mapUpdate; refine wpList_mapUpdate_in _ rfl _ _ _ 67 rfl 3 3 law3 Try.underlying67 _ mb k D rfl hown hkm _ _ _ rfl rfl hkey _ [] (plainElem_int Try.underlying3 hr) ?_; intro w1 hown1 hturn1))
    go_end0
    exact ⟨rfl, _, hown1, HP.out, hturn1⟩
  | some x =>
    rw [e] at h1 h2
    have H1 : Hid (Maps.has D (.int .i64 f) = true) := h1
    have H2 : Hid (D.atKey (.int .i64 f) (.lit (.int .i64 0)) = .lit (.int .i64 x)) := h2
    by_cases hx : x < r
    · have HP : Hid (MR (D.put (.int .i64 f) (.lit (.int .i64 r))) (hear m f r)) := HM.out.put hf (by unfold hear; simp [e, hx])
      clear h1 h2 e
      go_enter Try.func15, Try.ntmps15
      go_wp2_with (first
        | (go_at_call 30; refine (rmade_any b mb _ h).mono ?_; rintro e w2 ⟨rfl, rfl⟩)
        | (at_lookup; refine wpList_lookup_own_ok_int _ rfl _ _ 67 rfl 3 3 .i64 law3 Try.underlying67 Try.underlying3 (zero3 _) mb k D rfl hown _ _ rfl hkey ?_; intro c hat hwc; rw [H2.out] at hat; obtain rfl : x = c := (by injection hat with h9; injection h9); rw [H1.out])
        | (at_mapUpdate; refine wpList_mapUpdate_in _ rfl _ _ _ 67 rfl 3 3 law3 Try.underlying67 _ mb k D rfl hown hkm _ _ _ rfl rfl hkey _ [] (plainElem_int Try.underlying3 hr) ?_; intro w1 hown1 hturn1))
      go_end0
      exact ⟨rfl, _, hown1, HP.out, hturn1⟩
    · have HP : Hid (MR D (hear m f r)) := by
        show MR _ _
        rw [hear_old e hx]; exact HM.out
      clear h1 h2 e
      have hx' : r ≤ x := by omega
      go_enter Try.func15, Try.ntmps15
      go_wp2_with (first
        | (go_at_call 30; refine (rmade_any b mb _ h).mono ?_; rintro e w2 ⟨rfl, rfl⟩)
        | (at_lookup; refine wpList_lookup_own_ok_int _ rfl _ _ 67 rfl 3 3 .i64 law3 Try.underlying67 Try.underlying3 (zero3 _) mb k D rfl hown _ _ rfl hkey ?_; intro c hat hwc; rw [H2.out] at hat; obtain rfl : x = c := (by injection hat with h9; injection h9); rw [H1.out]))
      go_end0
      exact ⟨rfl, _, owns_more hown, HP.out, hown.turned_refl⟩
end Go.Proofs.Ytbjhpifllgoffaa
