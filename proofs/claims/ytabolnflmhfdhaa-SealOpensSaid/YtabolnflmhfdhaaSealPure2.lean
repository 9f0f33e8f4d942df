/- Plain: frames that are cut off are scanned to those that are whole. No program in sight. -/
import Derived.Test.YtabolnflmhfdhaaSealPure
set_option linter.unusedSimpArgs false
set_option linter.unusedVariables false
namespace Go.Proofs.Ytabolnflmhfdhaa.Seal

theorem numb_take (l : List UInt8) (k : Nat) (h : 4 ≤ k) : numb (l.take k) = numb l := by
  unfold numb
  simp only [List.getD_eq_getElem?_getD, List.getElem?_take]
  rw [if_pos (by omega), if_pos (by omega), if_pos (by omega), if_pos (by omega)]

theorem open_torn (a : List UInt8) (k : Nat) (ha : a.length ≤ 1048576) (hk : k < 8 + a.length) : (openL ((frame a).take k)).2.2 ≠ 0 := by
  have hl : ((frame a).take k).length = k := by rw [List.length_take, frame_length]; omega
  unfold openL
  rw [hl]
  by_cases c : k < 8
  · rw [if_pos c]; simp
  · have hn : numb ((frame a).take k) = a.length := by
      rw [numb_take _ _ (by omega)]
      unfold frame
      rw [List.append_assoc]
      exact numb_four (by omega) _
    rw [if_neg c, hn, if_neg (by omega), if_pos (by omega)]
    simp

/-- how many of the frames are whole -/
def whole : List (List UInt8) → Nat → Nat
  | [], _ => 0
  | a :: l, cut => if 8 + a.length ≤ cut then whole l (cut - (8 + a.length)) + 1 else 0
/-- how many bytes the first i frames have -/
def pl (l : List (List UInt8)) (i : Nat) : Nat := (frames (l.take i)).length
theorem pl_zero (l : List (List UInt8)) : pl l 0 = 0 := by simp [pl, frames]
theorem pl_cons (a : List UInt8) (l : List (List UInt8)) (i : Nat) : pl (a :: l) (i + 1) = 8 + a.length + pl l i := by
  simp [pl, frames, frame_length]
theorem whole_le (l : List (List UInt8)) : ∀ cut, whole l cut ≤ l.length := by
  induction l with
  | nil => intro cut; simp [whole]
  | cons a l ih =>
    intro cut
    unfold whole
    split
    · have := ih (cut - (8 + a.length)); simp; omega
    · simp
theorem pl_lt (l : List (List UInt8)) : ∀ i, i < l.length → pl l i < pl l (i + 1) := by
  induction l with
  | nil => intro i h; simp at h
  | cons a l ih =>
    intro i h
    cases i with
    | zero => rw [pl_zero, pl_cons]; omega
    | succ i =>
      rw [pl_cons, pl_cons]
      have := ih i (by simpa using h)
      omega
/-- the i-th frame ends within the cut if and only if it is one of the whole ones -/
theorem whole_iff (l : List (List UInt8)) : ∀ (cut i : Nat), i < l.length → (pl l (i + 1) ≤ cut ↔ i < whole l cut) := by
  induction l with
  | nil => intro cut i h; simp at h
  | cons a l ih =>
    intro cut i h
    unfold whole
    rw [pl_cons]
    by_cases c : 8 + a.length ≤ cut
    · rw [if_pos c]
      cases i with
      | zero => rw [pl_zero]; omega
      | succ i =>
        have := ih (cut - (8 + a.length)) i (by simpa using h)
        omega
    · rw [if_neg c]
      omega
theorem scan_torn (l : List (List UInt8)) (h : ∀ a ∈ l, a.length ≤ 1048576) : ∀ cut, scan ((frames l).take cut) = (l.take (whole l cut), pl l (whole l cut)) := by
  induction l with
  | nil =>
    intro cut
    have : scan [] = ([], 0) := by decide
    simp [frames, whole, pl, this]
  | cons a l ih =>
    intro cut
    have ha := h a (by simp)
    have e : frames (a :: l) = frame a ++ frames l := by simp [frames]
    unfold whole
    by_cases c : 8 + a.length ≤ cut
    · have et : (frames (a :: l)).take cut = frame a ++ (frames l).take (cut - (8 + a.length)) := by
        rw [e, List.take_append, List.take_of_length_le (by rw [frame_length]; omega), frame_length]
      have ho := open_frame a ((frames l).take (cut - (8 + a.length))) ha
      have hd : (frame a ++ (frames l).take (cut - (8 + a.length))).drop (8 + a.length) = (frames l).take (cut - (8 + a.length)) := by
        rw [← frame_length, List.drop_left]
      rw [if_pos c, et, scan_step (by rw [ho])]
      simp only [ho]
      rw [hd, ih (fun b hb => h b (by simp [hb])), List.take_succ_cons, pl_cons]
    · have et : (frames (a :: l)).take cut = (frame a).take cut := by
        rw [e, List.take_append, frame_length, show cut - (8 + a.length) = 0 by omega]
        simp
      rw [if_neg c, et, scan_stop (open_torn a cut ha (by omega)), pl_zero]
      simp
end Go.Proofs.Ytabolnflmhfdhaa.Seal
