/- A map of texts that lives: what a law carries from act to act. -/
import Derived.Test.YtcooapflofiolaaDoorMSLive
import Derived.Test.YtcooapflofiolaaDoorMIDel
namespace Go.Proofs.YtcooapflofiolaaDoor.MI
open Go Go.RowKit Go.Shelf
set_option linter.unusedVariables false
set_option linter.unusedSimpArgs false
set_option maxRecDepth 100000
set_option maxHeartbeats 2000000
/-- A map that lives, all of it at or above a block. -/
structure Live (w : World) (lo : Nat) (p : Pl) (k0 k1 : BitVec 64) (m : Mp VT) : Prop where
  at_ : At w p k0 k1 m
  inv : MInv (hashN k0 k1) m
  keys : MKeys m
  sh : Sh w
  own : ∀ j, p.own j → lo ≤ j
  pos : 0 < lo
  le : lo ≤ w.heap.size
section
variable {w w' : World} {lo : Nat} {p : Pl} {k0 k1 : BitVec 64} {m : Mp VT}
theorem Live.zero (h : Live w lo p k0 k1 m) : ¬ p.own 0 := fun e => by have := h.own 0 e; have := h.pos; omega
theorem Live.below {k : Nat} (h : Live w lo p k0 k1 m) (hk : w.heap.size ≤ k) (hb : Below k w w') : Live w' lo p k0 k1 m :=
  ⟨h.at_.below hk hb, h.inv, h.keys, fun j hj => low_cell hb hk (h.sh j hj), h.own, h.pos, Nat.le_trans h.le hb.size⟩
theorem Live.kept {S : Nat → Prop} (h : Live w lo p k0 k1 m) (hk : Kept S w w') (hs : ∀ j, p.own j → ¬ S j) (h0 : ¬ S 0) : Live w' lo p k0 k1 m :=
  ⟨h.at_.kept hk hs, h.inv, h.keys, fun j hj => kept_cell hk (h.sh j hj) h0, h.own, h.pos, Nat.le_trans h.le hk.size⟩
theorem Live.low (h : Live w lo p k0 k1 m) (hk : Kept p.own w w') : Below lo w w' := hk.below h.le (fun j _ hj => h.own j hj)
theorem Live.len (h : Live w lo p k0 k1 m) : 1 ≤ m.ws.length := h.inv.len.1
/-- What an act leaves. -/
def Acted (w : World) (lo : Nat) (p : Pl) (k0 k1 : BitVec 64) (m' : Mp VT) (w' : World) : Prop := ∃ q : Pl, q.b = p.b ∧ Live w' lo q k0 k1 m' ∧ (∀ j, q.own j → p.own j ∨ w.heap.size ≤ j) ∧ Kept p.own w w'
theorem acted {m' : Mp VT} (h : Live w lo p k0 k1 m) (ht : Turned w p k0 k1 m' w') (I : MInv (hashN k0 k1) m') (hk : MKeys m') : Acted w lo p k0 k1 m' w' := by
  obtain ⟨q, h1, h2, h3, h4⟩ := ht
  refine ⟨q, h1, ⟨h2, I, hk, fun j hj => kept_cell h4 (h.sh j hj) h.zero, fun j hj => ?_, h.pos, Nat.le_trans h.le h4.size⟩, h3, h4⟩
  rcases h3 j hj with h5 | h5
  · exact h.own j h5
  · exact Nat.le_trans h.le h5
theorem put_live (h : Live w lo p k0 k1 m) (key : ByteArray) (u : VT) (hkey : key.size ≤ maxLen) :
    Calls Tryd.prog 54 #[.pointer (some ⟨p.b, 0, none⟩), .string key, val u] w fun e w' => e = .returned (.tuple #[.bool (putB (hashN k0 k1) m key), .int .i64 (putE (hashN k0 k1) m key)]) ∧ Acted w lo p k0 k1 (put (hashN k0 k1) m key u) w' :=
  (put_any p k0 k1 m key u w h.at_ h.inv h.keys hkey h.sh h.zero).mono fun e w' ⟨h1, h2⟩ => ⟨h1, acted h h2 (put_inv h.inv key u) (h.keys.put h.inv hkey)⟩
theorem delete_live (h : Live w lo p k0 k1 m) (key : ByteArray) (hkey : key.size ≤ maxLen) :
    Calls Tryd.prog 56 #[.pointer (some ⟨p.b, 0, none⟩), .string key] w fun e w' => e = .returned (.bool (find (hashN k0 k1) m key).isSome) ∧ Acted w lo p k0 k1 (del (hashN k0 k1) m key) w' :=
  (delete_any p k0 k1 m key w h.at_ h.inv hkey h.sh h.zero).mono fun e w' ⟨h1, h2⟩ => ⟨h1, acted h h2 (del_inv h.inv key) (h.keys.del h.inv key)⟩
theorem new_live (k0 k1 : BitVec 64) (hint : Int) (w : World) (hS : Sh w) :
    Calls Tryd.prog 64 #[.agg #[.int .u64 (Sip.U k0), .int .u64 (Sip.U k1)], .int .i64 hint] w fun e w' => Below w.heap.size w w' ∧ ((needF hint = 0 ∧ e = .returned (.pointer none)) ∨ (∃ (p : Pl) (g : Nat), needF hint = (g : Int) ∧ e = .returned (.pointer (some ⟨p.b, 0, none⟩)) ∧ Live w' w.heap.size p k0 k1 (empty g))) :=
  (new_any k0 k1 hint w).mono fun e w' ⟨h1, h2⟩ => ⟨h1, h2.imp id fun ⟨h3, p, g, h4, h5, h6, h7⟩ => ⟨p, g, h4, h5, h6, empty_inv (by rw [← h4]; exact h3), MKeys.empty g, hS.below h1, h7, sh_pos hS, h1.size⟩⟩
end
end Go.Proofs.YtcooapflofiolaaDoor.MI
