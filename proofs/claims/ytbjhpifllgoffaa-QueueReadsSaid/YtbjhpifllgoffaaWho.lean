/- Reads that wait: who has said a round. -/
import Derived.Test.YtbjhpifllgoffaaReads
import Derived.Maps.RangeWalk
namespace Go.Proofs.Ytbjhpifllgoffaa
open Go Go.RowKit Go.Maps
set_option linter.unusedVariables false
set_option linter.unusedSimpArgs false
set_option maxRecDepth 100000
set_option maxHeartbeats 1000000
theorem MR.entry {D : DataW Unit} {m : Int → Option Int} {x c : Int} (h : MR D m) (hx : (Lit.int .i64 x).wf = true) (hat : ∀ zd, D.atKey (.int .i64 x) zd = .lit (.int .i64 c)) : m x = some c := by
  obtain ⟨h1, h2⟩ := h.2.1 x hx
  have hh : Maps.has D (.int .i64 x) = true := by
    cases e : Maps.has D (.int .i64 x) with
    | true => rfl
    | false =>
      have := hat (.lit (.bool true))
      rw [atKey_of_not_has e] at this
      cases this
  rw [hh] at h1
  rw [hat] at h2
  cases e : m x with
  | none => rw [e] at h1; cases h1
  | some y =>
    rw [e] at h2
    injection h2 with h3
    injection h3 with h4 h5
    rw [h5]; rfl
theorem owns_size {w : World} {mb k : Nat} {D : DataW Unit} (h : w.ownsMap Try.prog 3 (plainElem Try.prog 3) mb k D) : Maps.size D ≤ k := by
  obtain ⟨es, clock, _, _, hs, rfl⟩ := h
  simpa [Maps.size, length_sorted] using hs
/-- Has he said the round, or is he the one himself? -/
def whoB (m : Int → Option Int) (rd self n : Int) : Bool := self == n || (match m n with | some x => decide (rd ≤ x) | none => false)
/-- What of it has been met. -/
def whoL (m : Int → Option Int) (rd self : Int) (left : Lit → Bool) (A : List Int) : Prop := ∀ n, bI A n = (self == n || (match m n with | some x => decide (rd ≤ x) && !left (.int .i64 n) | none => false))
theorem whoL_start {D : DataW Unit} {m : Int → Option Int} (h : MR D m) (rd self : Int) : whoL m rd self (Maps.has D) [self] := fun n => by
  have e1 : bI [self] n = (self == n) := by simp [bI]
  rw [e1]
  cases e : m n with
  | none => simp
  | some x =>
    have hw := h.2.2 n (by rw [e]; rfl)
    rw [(h.2.1 n hw).1, e]; simp
theorem same_int (n x : Int) : (Lit.int .i64 n).sameKey (.int .i64 x) = (n == x) := by by_cases e : n = x <;> simp [Lit.sameKey, e]
theorem whoL_step {m : Int → Option Int} {rd self x c : Int} {left : Lit → Bool} {A : List Int} (h : whoL m rd self left A) (hm : m x = some c) :
    (rd ≤ c → whoL m rd self (fun z => left z && !z.sameKey (.int .i64 x)) (A ++ [x])) ∧ (¬ rd ≤ c → whoL m rd self (fun z => left z && !z.sameKey (.int .i64 x)) A) := by
  constructor
  · intro hc n
    rw [bI_snoc, h n]
    simp only [same_int]
    by_cases e : n = x
    · subst e; rw [hm]; simp [hc]
    · have e1 : (x == n) = false := by rw [beq_eq_false_iff_ne]; exact fun h => e h.symm
      have e2 : (n == x) = false := by rw [beq_eq_false_iff_ne]; exact e
      rw [e1, e2]; simp
  · intro hc n
    rw [h n]
    simp only [same_int]
    by_cases e : n = x
    · subst e; rw [hm]; simp [hc]
    · have e2 : (n == x) = false := by rw [beq_eq_false_iff_ne]; exact e
      rw [e2]; simp
theorem whoL_end {m : Int → Option Int} {rd self : Int} {left : Lit → Bool} {A : List Int} (h : whoL m rd self left A) (hl : ∀ kl, left kl = false) (n : Int) : bI A n = whoB m rd self n := by
  rw [h n]; unfold whoB
  cases m n with
  | none => rfl
  | some x => simp [hl]
def Who (w : World) (k : Nat) (m : Int → Option Int) (rd self : Int) (e : Ending) (w' : World) : Prop :=
  ∃ a c n A, e = .returned (.slice a n c) ∧ Rd w' a n A ∧ n ≤ k + 1 ∧ (∀ n, bI A n = whoB m rd self n) ∧ Below w.heap.size w w'
/-- A round's state. -/
def WhoR (w : World) (mb k s : Nat) (D : DataW Unit) (m : Int → Option Int) (rd self : Int) (v : Value) (wr : World) (left : Lit → Bool) (cnt : Nat) (A : List Int) : Prop :=
  wr.ownsRow s 3 1 v A.length (A.map (Value.int .i64)) ∧ v.ownBlock ≠ some (s + 1) ∧ v.ownBlock ≠ none ∧ wr.ranges Try.prog 3 (plainElem Try.prog 3) mb (s + 1) k D left cnt ∧ Below s w wr ∧ A.length + cnt ≤ k + 1 ∧ whoL m rd self left A
theorem own_rd {w : World} {base : Nat} {v : Value} {A : List Int} (h : w.ownsRow base 3 1 v A.length (A.map (Value.int .i64))) : ∃ a c, v = .slice a A.length c ∧ Rd w a A.length A := by
  rcases h.2 with ⟨rfl, h0⟩ | ⟨g, cap, cur, rfl, hb, hg, h2, h3, h4, h5⟩
  · exact ⟨none, 0, by rw [h0], rfl, .inl h0⟩
  · refine ⟨_, cap, rfl, rfl, .inr ⟨g, 0, rfl, fun j hj => ?_⟩⟩
    have hc := h.cells (g := g) rfl j (.int .i64 (A.getD j 0)) (by rw [List.getElem?_map, List.getElem?_eq_getElem hj, List.getD_eq_getElem?_getD, List.getElem?_eq_getElem hj]; rfl)
    rw [Addr.add_lit] at hc
    exact hc
theorem who_any (b mb k : Nat) (D : DataW Unit) (m : Int → Option Int) (rd self : Int) (w : World) (h : w.cell? ⟨b, 1, none⟩ = some (.map (some mb))) (hown : w.ownsMap Try.prog 3 (plainElem Try.prog 3) mb k D) (hm : MR D m) (hk : k ≤ 900) :
    Calls Try.prog 32 #[.pointer (some ⟨b, 0, none⟩), .int .i64 rd, .int .i64 self] w (Who w k m rd self) := by
  have hlt := hown.lt
  have hbl : b < w.heap.size := cell_block_lt h
  have hsz := owns_size hown
  obtain ⟨i0, hi, hz0, hz1, hz2⟩ := info_parts Try.info3
  have HM := Lib.hid hm
  have HO := Lib.hid hown
  clear hm hown
  go_enter Try.func32, Try.ntmps32
  go_wp2_with (first
    | (at_range; refine wpList_range_own _ rfl _ 67 rfl 3 3 law3 Try.underlying67 _ mb k D rfl (HO.out.alloc _) ?_; intro w0 hrg0 hg0 hs0)
    | go_in)
  try go_frame
  obtain ⟨s, hs⟩ : ∃ s, s = w.heap.size := ⟨_, rfl⟩
  have hz1' : (w.alloc (Obj.cells #[Value.int IntKind.i64 self] 3)).heap.size = s + 1 := by rw [hs]; simp
  rw [hz1'] at hrg0 hs0 ⊢
  have START : Hid (WhoR w mb k s D m rd self (.slice (some ⟨s, 0, none⟩) 1 1) w0 (Maps.has D) (Maps.size D) [self]) := by
    refine ⟨?_, by simp [Value.ownBlock], by simp [Value.ownBlock], hrg0, ?_, by simp; omega, whoL_start HM.out _ _⟩
    · have h1 : (w.alloc (Obj.cells #[Value.int IntKind.i64 self] 3)).ownsRow s 3 1 (.slice (some ⟨s, 0, none⟩) 1 1) 1 [.int .i64 self] := by
        refine ⟨rfl, .inr ⟨s, 1, #[.int .i64 self], rfl, Nat.le_refl _, by rw [hs]; exact heap_alloc_new _ _, Nat.le_refl _, by simp [maxLen], rfl, rfl⟩⟩
      exact h1.kept hg0 (.inr (by simp [Value.ownBlock]))
    · rw [hs]; exact ((Below.refl _ w).alloc (Nat.le_refl _) _).grown hg0 (by simp) (fun j e => by cases e)
  rw [← hs]
  have HS := Lib.hid hs
  clear hrg0 hg0 hs0 hz1' hs h
  go_loopw [7, 8, 9] (fun lv _ _ wr => ∃ left cnt A v, lv = v ∧ WhoR w mb k s D m rd self v wr left cnt A) (fun _ _ _ wr => wr.rangeLeft mb (s + 1))
  case atStart => exact ⟨_, _, _, _, rfl, START.out⟩
  case round =>
    obtain ⟨left, cnt, A, v, rfl, hR⟩ := hrel
    have HR := Lib.hid hR
    obtain ⟨hrow, hob, hon, hrg, hB, hcnt, hL⟩ := hR
    have HRG := Lib.hid hrg
    have HROW := Lib.hid hrow
    have HL := Lib.hid hL
    have HB := Lib.hid hB
    have HOB := Lib.hid hob
    have HON := Lib.hid hon
    have hlt2 := hrg.lt
    clear hrow hob hon hrg hB hL
    go_wp2_with (first
      | (at_next; refine wpList_next_ranges_ii _ rfl _ rfl 3 3 .i64 .i64 law3 Try.underlying3 Try.underlying3 mb (s + 1) k _ _ _ rfl HRG.out ?_ ?_)
      | go_in)
    · intro _ hl0
      have H0 := Lib.hid hl0
      clear hl0
      obtain ⟨a, c, rfl, hrd⟩ := own_rd HROW.out
      have HRD := Lib.hid hrd
      clear hrd
      go_wp2
      go_ret
      exact ⟨a, c, _, A, rfl, HRD.out, by omega, whoL_end HL.out H0.out, by rw [← HS.out]; exact HB.out⟩
    · intro x c w1 cnt1 hwx hwc hlx hat hrg1 hlt1 hg1 hs1 hen
      have HX : Hid (m x = some c) := HM.out.entry hwx hat
      have HRG1 := Lib.hid hrg1
      have HROW1 := Lib.hid (HROW.out.kept hg1 (.inr HOB.out))
      have HB1 : Hid (Below s w w1) := HB.out.grown hg1 (by have := HB.out.size; rw [← HS.out] at this; exact this) (fun j e => by cases e; omega)
      have hlt3 := hrg1.lt
      have HST := Lib.hid (whoL_step HL.out HX.out)
      have hz9 := Nat.le_of_eq hs1
      clear hat hrg1 hg1 hlx hs1
      by_cases hc : rd ≤ c
      · obtain ⟨a, cc, rfl⟩ := own_sl HROW1.out
        have h63 : A.length + 1 ≤ maxLen := by simp only [maxLen]; omega
        have h64 : (A.length + 1) * 8 ≤ 140737488355328 := by omega
        go_wp2_with (first
          | (at_builtin; refine wpList_append_own_at _ rfl _ _ 22 rfl s 3 i0 (.int .i64 0) 1 8 Try.underlying22 hi hz0 hz1 hz2 rfl (by decide) (.slice a A.length cc) A.length (A.map (Value.int .i64)) rfl (HROW1.out.alloc _) ⟨w1.heap.size, 0, none⟩ 1 1 [.int .i64 x] rfl rfl (cell_one_new _ _ _) (by simp [Value.oneCell']) h63 h64 (by simp; omega) ?_; intro v' w2 hown2 hgrow2 _ hwhere; go_frame)
          | go_in)
        have HN : Hid (WhoR w mb k s D m rd self v' w2 (fun z => left z && !z.sameKey (.int .i64 x)) cnt1 (A ++ [x])) := by
          have hmb : mb < s := by rw [HS.out]; exact hlt
          refine ⟨by simpa using hown2, ?_, ?_, (HRG1.out.alloc _).kept hgrow2 (fun e => ?_) (fun e => HOB.out e.symm), ?_, by simp; omega, HST.out.1 hc⟩
          · rcases hwhere with e | e
            · rw [e]; exact HOB.out
            · rw [e]; simp; omega
          · rcases hwhere with e | e
            · rw [e]; exact HON.out
            · rw [e]; simp
          · have := own_blk HROW1.out e.symm; omega
          · exact (HB1.out.alloc (by omega) _).grown hgrow2 (by simp; omega) (fun j e => own_blk HROW1.out e)
        clear hown2 hgrow2 hwhere
        go_wp2
        go_roundw
        case rel => exact ⟨_, _, _, _, rfl, HN.out⟩
        case measure =>
          obtain ⟨_, _, _, hn, _⟩ := HN.out
          rw [hn.left_eq, HRG.out.left_eq]; exact hlt1
      · have HN : Hid (WhoR w mb k s D m rd self _ w1 (fun z => left z && !z.sameKey (.int .i64 x)) cnt1 A) :=
          ⟨HROW1.out, HOB.out, HON.out, HRG1.out, HB1.out, by omega, HST.out.2 hc⟩
        go_wp2
        go_roundw
        case rel => exact ⟨_, _, _, _, rfl, HN.out⟩
        case measure => rw [HRG1.out.left_eq, HRG.out.left_eq]; exact hlt1
end Go.Proofs.Ytbjhpifllgoffaa
