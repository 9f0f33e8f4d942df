/- Plain: the document's answers for sums, frames and scans are these. No program in sight. -/
import Derived.Test.YtabolnflmhfdhaaSealPure4
set_option linter.unusedSimpArgs false
set_option linter.unusedVariables false
namespace Go.Proofs.Ytabolnflmhfdhaa.Seal

/-- one bit of the document's sum -/
def bit (p : Nat × Nat) : Nat × Nat := ((p.1 / 2) ^^^ (if (p.1 % 2 + p.2 % 2) % 2 = 1 then 3988292384 else 0), p.2 / 2)
def bitsN : Nat → Nat × Nat → Nat × Nat
  | 0, p => p
  | k + 1, p => bit (bitsN k p)
theorem bit_xor (p : Nat × Nat) : (bit p).1 ^^^ (bit p).2 = crc1 (p.1 ^^^ p.2) := by
  unfold bit crc1
  rw [Nat.xor_div_two, xor_mod2, show (p.1 + p.2) % 2 = (p.1 % 2 + p.2 % 2) % 2 by omega]
  simp only
  rw [Nat.xor_assoc, Nat.xor_comm _ (p.2 / 2), ← Nat.xor_assoc]
theorem bits_snd (k : Nat) (p : Nat × Nat) : (bitsN k p).2 = p.2 / 2 ^ k := by
  induction k with
  | zero => simp [bitsN]
  | succ k ih =>
    show (bitsN k p).2 / 2 = _
    rw [ih, Nat.div_div_eq_div_mul, Nat.pow_succ]
theorem bits_byte (c : Nat) (b : UInt8) : (bitsN 8 (c, b.toNat)).1 = crcB c b := by
  have h : ∀ p, (bitsN 8 p).1 ^^^ (bitsN 8 p).2 = crc8 (p.1 ^^^ p.2) := by
    intro p
    simp only [bitsN, bit_xor, crc8]
  have h2 : (bitsN 8 (c, b.toNat)).2 = 0 := by
    rw [bits_snd]
    exact Nat.div_eq_of_lt b.toNat_lt
  have := h (c, b.toNat)
  rw [h2, Nat.xor_zero] at this
  exact this
theorem bits_lt (k : Nat) (p : Nat × Nat) (h : p.1 < 4294967296) : (bitsN k p).1 < 4294967296 := by
  induction k with
  | zero => exact h
  | succ k ih => exact xor_lt 32 (by omega) (by split <;> omega)

theorem take_four {s : List UInt8} (h : 4 ≤ s.length) : s.take 4 = four (numb s) := by
  refine numb_four_inj (s.take 4) (s.drop 4) (by simp; omega) _ ?_
  rw [List.take_append_drop]
/-- the document's test of a frame is the sum's -/
theorem frame_test {s : List UInt8} (h8 : 8 ≤ s.length) (hn : numb s ≤ s.length - 8) :
    frame ((s.drop 8).take (numb s)) = s.take (8 + numb s) ↔ sumL (s.take 4 ++ (s.drop 8).take (numb s)) = numb (s.drop 4) := by
  have hl : ((s.drop 8).take (numb s)).length = numb s := by simp; omega
  have e1 : s.take (8 + numb s) = s.take 4 ++ ((s.drop 4).take 4 ++ (s.drop 8).take (numb s)) := by
    rw [show 8 + numb s = 4 + (4 + numb s) by omega, List.take_add, List.take_add, List.drop_drop]
  unfold frame
  rw [hl, e1, ← take_four (by omega), List.append_assoc]
  have h4 := take_four (s := s.drop 4) (by simp; omega)
  rw [h4]
  constructor
  · intro h
    have h2 := List.append_cancel_left h
    have h3 := List.append_cancel_right h2
    have := numb_four (sumL_lt (s.take 4 ++ (s.drop 8).take (numb s))) []
    rw [h3, numb_four (numb_lt _)] at this
    exact this.symm
  · intro h
    rw [h]
end Go.Proofs.Ytabolnflmhfdhaa.Seal
