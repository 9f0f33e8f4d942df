/- Plain: the sum of bytes, frames, their scan; what is bent is told. No program in sight. -/
set_option linter.unusedSimpArgs false
set_option linter.unusedVariables false
namespace Go.Proofs.Ytloimgmifalpnaa.Seal

/-- one shift of the register -/
def crc1 (c : Nat) : Nat := c / 2 ^^^ (if c % 2 = 1 then 3988292384 else 0)
def crc8 (c : Nat) : Nat := crc1 (crc1 (crc1 (crc1 (crc1 (crc1 (crc1 (crc1 c)))))))
def crcB (c : Nat) (b : UInt8) : Nat := crc8 (c ^^^ b.toNat)
def crcL (c : Nat) (l : List UInt8) : Nat := l.foldl crcB c
def sumL (l : List UInt8) : Nat := 4294967295 - crcL 4294967295 l
def four (v : Nat) : List UInt8 := [UInt8.ofNat (v / 16777216), UInt8.ofNat (v / 65536), UInt8.ofNat (v / 256), UInt8.ofNat v]
def frame (l : List UInt8) : List UInt8 := four l.length ++ four (sumL (four l.length ++ l)) ++ l
def numb (l : List UInt8) : Nat := (l.getD 0 0).toNat * 16777216 + (l.getD 1 0).toNat * 65536 + (l.getD 2 0).toNat * 256 + (l.getD 3 0).toNat

theorem xor_lt {a b : Nat} (n : Nat) (ha : a < 2 ^ n) (hb : b < 2 ^ n) : a ^^^ b < 2 ^ n := Nat.xor_lt_two_pow ha hb
theorem crc1_lt {c : Nat} (h : c < 4294967296) : crc1 c < 4294967296 := by
  unfold crc1
  exact xor_lt 32 (by omega) (by split <;> omega)
theorem crc8_lt {c : Nat} (h : c < 4294967296) : crc8 c < 4294967296 := by
  unfold crc8
  exact crc1_lt (crc1_lt (crc1_lt (crc1_lt (crc1_lt (crc1_lt (crc1_lt (crc1_lt h)))))))
theorem crcB_lt {c : Nat} (b : UInt8) (h : c < 4294967296) : crcB c b < 4294967296 := crc8_lt (xor_lt 32 h (by have := b.toNat_lt; omega))
theorem crcL_lt (l : List UInt8) : ∀ {c : Nat}, c < 4294967296 → crcL c l < 4294967296 := by
  induction l with
  | nil => intro c h; exact h
  | cons b l ih => intro c h; exact ih (crcB_lt b h)
theorem crcL_append (c : Nat) (a b : List UInt8) : crcL c (a ++ b) = crcL (crcL c a) b := by simp [crcL]
theorem crcL_snoc (c : Nat) (a : List UInt8) (b : UInt8) : crcL c (a ++ [b]) = crcB (crcL c a) b := by simp [crcL]
theorem sumL_lt (l : List UInt8) : sumL l < 4294967296 := by unfold sumL; omega

theorem four_length (v : Nat) : (four v).length = 4 := rfl
theorem four_take (v : Nat) : (four v).take 4 = four v := rfl
theorem four_drop (v : Nat) : (four v).drop 4 = [] := rfl
theorem four_drop8 (v : Nat) : (four v).drop 8 = [] := rfl
theorem frame_length (l : List UInt8) : (frame l).length = 8 + l.length := by simp [frame, four_length]; omega
theorem numb_four {v : Nat} (h : v < 4294967296) (r : List UInt8) : numb (four v ++ r) = v := by
  simp [numb, four]
  omega
theorem numb_lt (l : List UInt8) : numb l < 4294967296 := by
  unfold numb
  have h0 := (l.getD 0 0).toNat_lt
  have h1 := (l.getD 1 0).toNat_lt
  have h2 := (l.getD 2 0).toNat_lt
  have h3 := (l.getD 3 0).toNat_lt
  omega

/-- what is in the frame at the beginning, how many bytes it has; else the error's number -/
def openL (s : List UInt8) : List UInt8 × Nat × Nat :=
  if s.length < 8 then ([], 0, 2)
  else if 1048576 < numb s then ([], 0, 11)
  else if s.length - 8 < numb s then ([], 0, 2)
  else if sumL (s.take 4 ++ (s.drop 8).take (numb s)) = numb (s.drop 4) then ((s.drop 8).take (numb s), 8 + numb s, 0)
  else ([], 0, 4)
theorem open_pos {s : List UInt8} (h : (openL s).2.2 = 0) : 8 ≤ (openL s).2.1 ∧ (openL s).2.1 ≤ s.length := by
  unfold openL at h ⊢
  split
  · rename_i c; rw [if_pos c] at h; cases h
  · rename_i c
    rw [if_neg c] at h
    split
    · rename_i d; rw [if_pos d] at h; cases h
    · rename_i d
      rw [if_neg d] at h
      split
      · rename_i e; rw [if_pos e] at h; cases h
      · rename_i e
        rw [if_neg e] at h
        split
        · simp; omega
        · rename_i f; rw [if_neg f] at h; cases h
/-- the frames at the beginning, as far as they go, and how many bytes these have -/
def scanL (fuel : Nat) (s : List UInt8) : List (List UInt8) × Nat :=
  match fuel with
  | 0 => ([], 0)
  | k + 1 => if (openL s).2.2 = 0 then ((openL s).1 :: (scanL k (s.drop (openL s).2.1)).1, (openL s).2.1 + (scanL k (s.drop (openL s).2.1)).2) else ([], 0)
theorem scanL_succ (k : Nat) (s : List UInt8) : scanL (k + 1) s = if (openL s).2.2 = 0 then ((openL s).1 :: (scanL k (s.drop (openL s).2.1)).1, (openL s).2.1 + (scanL k (s.drop (openL s).2.1)).2) else ([], 0) := rfl
theorem scan_more (s : List UInt8) : ∀ k, s.length < k → scanL (k + 1) s = scanL k s := by
  suffices h : ∀ (n : Nat) (s : List UInt8), s.length ≤ n → ∀ k, s.length < k → scanL (k + 1) s = scanL k s from h s.length s (Nat.le_refl _)
  intro n
  induction n with
  | zero =>
    intro s hs k hk
    obtain ⟨j, rfl⟩ : ∃ j, k = j + 1 := ⟨k - 1, by omega⟩
    have : (openL s).2.2 ≠ 0 := by unfold openL; rw [if_pos (by omega)]; simp
    simp [scanL, this]
  | succ n ih =>
    intro s hs k hk
    obtain ⟨j, rfl⟩ : ∃ j, k = j + 1 := ⟨k - 1, by omega⟩
    by_cases h0 : (openL s).2.2 = 0
    · have hp := open_pos h0
      have := ih (s.drop (openL s).2.1) (by simp; omega) j (by simp; omega)
      rw [scanL_succ (j + 1), if_pos h0, scanL_succ j s, if_pos h0, this]
    · simp [scanL, h0]
theorem scan_enough (s : List UInt8) (k : Nat) (hk : s.length < k) : scanL k s = scanL (s.length + 1) s := by
  induction k with
  | zero => omega
  | succ k ih =>
    by_cases h : s.length < k
    · rw [scan_more s k h, ih h]
    · obtain rfl : k = s.length := by omega
      rfl
def scan (s : List UInt8) : List (List UInt8) × Nat := scanL (s.length + 1) s
theorem scan_stop {s : List UInt8} (h : (openL s).2.2 ≠ 0) : scan s = ([], 0) := by simp [scan, scanL, h]
theorem scan_step {s : List UInt8} (h : (openL s).2.2 = 0) : scan s = ((openL s).1 :: (scan (s.drop (openL s).2.1)).1, (openL s).2.1 + (scan (s.drop (openL s).2.1)).2) := by
  have hp := open_pos h
  unfold scan
  rw [scanL_succ, if_pos h, scan_enough (s.drop (openL s).2.1) s.length (by simp; omega)]

/-- a frame is opened as what is in it, whatever stands behind -/
theorem open_frame (a t : List UInt8) (h : a.length ≤ 1048576) : openL (frame a ++ t) = (a, 8 + a.length, 0) := by
  have hl : (frame a ++ t).length = 8 + a.length + t.length := by simp [frame_length]
  have hn : numb (frame a ++ t) = a.length := by
    unfold frame
    rw [List.append_assoc, List.append_assoc]
    exact numb_four (by omega) _
  have h4 : (frame a ++ t).take 4 = four a.length := by
    unfold frame
    simp [List.append_assoc, List.take_append, four_length, four_take]
  have hd4 : (frame a ++ t).drop 4 = four (sumL (four a.length ++ a)) ++ (a ++ t) := by
    unfold frame
    simp [List.append_assoc, List.drop_append, four_length, four_drop, four_drop8]
  have hd8 : (frame a ++ t).drop 8 = a ++ t := by
    unfold frame
    simp [List.append_assoc, List.drop_append, four_length, four_drop, four_drop8]
  unfold openL
  rw [hl, hn, h4, hd4, hd8, numb_four (sumL_lt _)]
  rw [if_neg (by omega), if_neg (by omega), if_neg (by omega)]
  simp

/-- frames, one behind the other -/
def frames (l : List (List UInt8)) : List UInt8 := l.flatMap frame
theorem scan_frames (l : List (List UInt8)) (t : List UInt8) (h : ∀ a ∈ l, a.length ≤ 1048576) : scan (frames l ++ t) = (l ++ (scan t).1, (frames l).length + (scan t).2) := by
  induction l with
  | nil => simp [frames]
  | cons a l ih =>
    have ha := h a (by simp)
    have e : frames (a :: l) ++ t = frame a ++ (frames l ++ t) := by simp [frames, List.append_assoc]
    have ho := open_frame a (frames l ++ t) ha
    have hd : (frame a ++ (frames l ++ t)).drop (8 + a.length) = frames l ++ t := by
      rw [← frame_length, List.drop_left]
    rw [e, scan_step (by rw [ho])]
    simp only [ho]
    rw [hd, ih (fun b hb => h b (by simp [hb]))]
    simp [frames, frame_length]
    omega
end Go.Proofs.Ytloimgmifalpnaa.Seal
