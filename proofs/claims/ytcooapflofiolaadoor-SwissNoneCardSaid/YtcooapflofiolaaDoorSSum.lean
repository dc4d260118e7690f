/- The walks of siphash's Sum: a block that goes in, a word. -/
import Derived.Test.YtcooapflofiolaaDoorSHash
import Derived.Laws.Rows
import Derived.Laws.Tables
namespace Go.Proofs.YtcooapflofiolaaDoor.Sip
open Go Go.RowKit
set_option linter.unusedVariables false
set_option linter.unusedSimpArgs false
set_option maxRecDepth 100000

/-- A state's block. -/
def Blk (w : World) (b : Nat) (v : St) : Prop := w.heap[b]? = some (.cells #[.int .u64 (U v.a), .int .u64 (U v.b), .int .u64 (U v.c), .int .u64 (U v.d)] 152 (0, 0))
theorem Blk.c0 {w b v} (h : Blk w b v) : w.cell? ⟨b, 0, none⟩ = some (.int .u64 (U v.a)) := by unfold Blk at h; simp [World.cell?, h]
theorem Blk.c1 {w b v} (h : Blk w b v) : w.cell? ⟨b, 1, none⟩ = some (.int .u64 (U v.b)) := by unfold Blk at h; simp [World.cell?, h]
theorem Blk.c2 {w b v} (h : Blk w b v) : w.cell? ⟨b, 2, none⟩ = some (.int .u64 (U v.c)) := by unfold Blk at h; simp [World.cell?, h]
theorem Blk.c3 {w b v} (h : Blk w b v) : w.cell? ⟨b, 3, none⟩ = some (.int .u64 (U v.d)) := by unfold Blk at h; simp [World.cell?, h]
theorem Blk.frozen {w b v} (h : Blk w b v) (j : Nat) : w.frozen? ⟨b, j, none⟩ = false := by unfold Blk at h; simp [World.frozen?, h]
theorem Blk.lt {w b v} (h : Blk w b v) : b < w.heap.size := (Array.getElem?_eq_some_iff.1 h).1
theorem Blk.below {w w' b v} (h : Blk w b v) (hb : Below w.heap.size w w') : Blk w' b v := (hb.block b h.lt).trans h
theorem Blk.set0 {w b v} (h : Blk w b v) (x : BitVec 64) : Blk (w.setCell ⟨b, 0, none⟩ (.int .u64 (U x))) b ⟨x, v.b, v.c, v.d⟩ := by
  have := heap_setCell_same w b 0 _ 152 (.int .u64 (U x)) h
  unfold Blk; rw [this]; rfl
theorem Blk.set1 {w b v} (h : Blk w b v) (x : BitVec 64) : Blk (w.setCell ⟨b, 1, none⟩ (.int .u64 (U x))) b ⟨v.a, x, v.c, v.d⟩ := by
  have := heap_setCell_same w b 1 _ 152 (.int .u64 (U x)) h
  unfold Blk; rw [this]; rfl
theorem Blk.set2 {w b v} (h : Blk w b v) (x : BitVec 64) : Blk (w.setCell ⟨b, 2, none⟩ (.int .u64 (U x))) b ⟨v.a, v.b, x, v.d⟩ := by
  have := heap_setCell_same w b 2 _ 152 (.int .u64 (U x)) h
  unfold Blk; rw [this]; rfl
theorem Blk.set3 {w b v} (h : Blk w b v) (x : BitVec 64) : Blk (w.setCell ⟨b, 3, none⟩ (.int .u64 (U x))) b ⟨v.a, v.b, v.c, x⟩ := by
  have := heap_setCell_same w b 3 _ 152 (.int .u64 (U x)) h
  unfold Blk; rw [this]; rfl

def blk (v : St) (m : BitVec 64) : St :=
  let u := rnd (rnd ⟨v.a, v.b, v.c, v.d ^^^ m⟩)
  ⟨u.a ^^^ m, u.b, u.c, u.d⟩

set_option maxHeartbeats 2000000 in
theorem take_any (v : St) (m : BitVec 64) (b : Nat) (w : World) (hb : Blk w b v) : Calls Tryd.prog 112 #[.int .u64 (U m), .int .i64 0, .int .i64 3, .pointer (some ⟨b, 0, none⟩)] w fun e w' => e = .returned (.tuple #[]) ∧ Blk w' b (blk v m) ∧ w.heap.size ≤ w'.heap.size ∧ ∀ B a, B ≤ b → Below B a w → Below B a w' := by
  have hx := U_xor v.d m
  have h0 := hb.c0
  have h1 := hb.c1
  have h2 := hb.c2
  have h3 := hb.c3
  have hf := hb.frozen 3
  have hlt := hb.lt
  have HB := Lib.hid hb
  clear hb
  go_enter Tryd.func112, Tryd.ntmps112
  go_wp2_with fail
  clear hx
  generalize hw1 : w.setCell _ _ = w1
  refine (round_any ⟨v.a, v.b, v.c, v.d ^^^ m⟩ w1).mono ?_
  rintro e w2 ⟨rfl, hB2⟩
  unfold arr
  go_wp2_with fail
  refine (round_any (rnd ⟨v.a, v.b, v.c, v.d ^^^ m⟩) w2).mono ?_
  rintro e w3 ⟨rfl, hB3⟩
  unfold arr
  obtain ⟨u, hu0⟩ : ∃ u, u = rnd (rnd ⟨v.a, v.b, v.c, v.d ^^^ m⟩) := ⟨_, rfl⟩
  rw [← hu0]
  have hu := Lib.hid hu0
  clear hu0
  have HB1 := HB.out.set3 (v.d ^^^ m)
  rw [hw1] at HB1
  have HB2 := HB1.below hB2
  have HB3 := HB2.below hB3
  have q0 := HB3.c0
  have q1 := HB3.c1
  have q2 := HB3.c2
  have q3 := HB3.c3
  have f0 := HB3.frozen 0
  have f1 := HB3.frozen 1
  have f2 := HB3.frozen 2
  have f3 := HB3.frozen 3
  clear HB1 HB2
  have hx := U_xor u.a m
  have HB3' := Lib.hid HB3
  clear HB3
  go_wp2
  refine bodyPost_end (v := .tuple #[]) (by simp [results, Tryd.results112, go_sem]) rfl ⟨rfl, ?_, ?_, ?_⟩
  · have := ((((HB3'.out.set0 u.a).set1 u.b).set2 u.c).set3 u.d).set0 (u.a ^^^ m)
    unfold blk; rw [← hu.out]; exact this
  · have e1 := hB2.size; have e2 := hB3.size
    rw [← hw1] at e1
    simp only [World.setCell, Array.size_modify] at e1 ⊢
    omega
  · intro B a hB h
    have e1 : Below B a w1 := by rw [← hw1]; exact h.setCell hB _
    have s1 : w1.heap.size = w.heap.size := by rw [← hw1]; simp [World.setCell]
    have e2 := hB2.size
    have e3 : Below B a w3 := (e1.trans (hB2.mono (by omega))).trans (hB3.mono (by omega))
    exact ((((e3.setCell hB _).setCell hB _).setCell hB _).setCell hB _).setCell hB _
/-- Eight bytes or less, the lowest first. -/
def wd (l : List UInt8) : BitVec 64 := l.foldr (fun c u => u <<< 8 ||| BitVec.ofNat 64 c.toNat) 0
theorem wd_cons (c : UInt8) (l : List UInt8) : wd (c :: l) = wd l <<< 8 ||| BitVec.ofNat 64 c.toNat := rfl
theorem drop_cons (s : ByteArray) (k : Nat) (h : k < s.size) : s.data.toList.drop k = s[k] :: s.data.toList.drop (k + 1) := List.drop_eq_getElem_cons (by simpa using h)
set_option maxHeartbeats 2000000 in
theorem word_any (s : ByteArray) (hs : s.size ≤ maxLen) (w : World) : Calls Tryd.prog 114 #[.string s] w fun e w' => e = .returned (.int .u64 (U (wd s.data.toList))) ∧ w = w' := by
  unfold maxLen at hs
  go_enter Tryd.func114, Tryd.ntmps114
  go_wp2
  go_loop [3, 4] (fun u i => ∃ k : Nat, k ≤ s.size ∧ i = .int .i64 ((k : Int) - 1) ∧ u = .int .u64 (U (wd (s.data.toList.drop k)))) (fun _ i => (intOf i + 1).toNat)
  case atStart => exact ⟨s.size, Nat.le_refl _, rfl, by rw [List.drop_of_length_le (by simp)]; rfl⟩
  case round =>
    obtain ⟨k, hk, rfl, rfl⟩ := hrel
    by_cases h0 : k = 0
    · subst h0
      go_wp2
      go_ret
      exact ⟨rfl, rfl⟩
    · obtain ⟨k, rfl⟩ : ∃ j, k = j + 1 := ⟨k - 1, by omega⟩
      have e1 : ((k + 1 : Nat) : Int) - 1 = k := by omega
      rw [e1]
      have hc := drop_cons s k (by omega)
      have hlt : k < s.size := by omega
      go_wp2
      go_round
      case rel =>
        refine ⟨k, by omega, rfl, ?_⟩
        have b1 := U_shl (wd (s.data.toList.drop (k + 1))) 8
        have b2 : IntKind.u64.wrap ((s[k].toNat : Nat) : Int) = U (BitVec.ofNat 64 s[k].toNat) := by
          have := s[k].toNat_lt
          rw [IntWalk.u64_in _ (by omega)]; exact U_lit _ (by omega)
        rw [hc, wd_cons, show (256 : Int) = 2 ^ 8 by decide, b1, b2, U_or]
      case measure => simp [intOf]
end Go.Proofs.YtcooapflofiolaaDoor.Sip
