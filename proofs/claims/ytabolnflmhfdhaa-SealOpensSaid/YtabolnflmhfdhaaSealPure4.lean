/- Plain: bytes of a row that are others; what is scanned then. No program in sight. -/
import Derived.Test.YtabolnflmhfdhaaSealPure3
set_option linter.unusedSimpArgs false
set_option linter.unusedVariables false
namespace Go.Proofs.Ytabolnflmhfdhaa.Seal

/-- from pos on the bytes are x -/
def lay (s : List UInt8) (pos : Nat) (x : List UInt8) : List UInt8 := s.take pos ++ x ++ s.drop (pos + x.length)
theorem lay_length (s : List UInt8) (pos : Nat) (x : List UInt8) (h : pos + x.length ≤ s.length) : (lay s pos x).length = s.length := by
  simp [lay]
  omega
theorem lay_nil (s : List UInt8) (pos : Nat) : lay s pos [] = s := by simp [lay]
theorem lay_in (P M R : List UInt8) (o : Nat) (x : List UInt8) (h : o + x.length ≤ M.length) : lay (P ++ (M ++ R)) (P.length + o) x = P ++ (lay M o x ++ R) := by
  unfold lay
  rw [List.take_append, List.take_of_length_le (show P.length ≤ P.length + o by omega), Nat.add_sub_cancel_left, List.take_append_of_le_length (by omega)]
  rw [List.drop_append, List.drop_eq_nil_of_le (show P.length ≤ P.length + o + x.length by omega), show P.length + o + x.length - P.length = o + x.length by omega, List.drop_append_of_le_length h]
  simp [List.append_assoc]
theorem lay_snoc (s : List UInt8) (pos : Nat) (x : List UInt8) (b : UInt8) (h : pos + x.length < s.length) : (lay s pos x).set (pos + x.length) b = lay s pos (x ++ [b]) := by
  unfold lay
  have e : (s.take pos ++ x).length = pos + x.length := by simp; omega
  rw [List.set_append_right _ _ (by omega), e, Nat.sub_self, List.drop_eq_getElem_cons h, List.set_cons_zero]
  simp [List.append_assoc, Nat.add_assoc]
theorem lay_get (s : List UInt8) (pos : Nat) (x : List UInt8) (h : pos + x.length < s.length) (h2 : pos + x.length < (lay s pos x).length) : (lay s pos x)[pos + x.length] = s[pos + x.length] := by
  have e : (s.take pos ++ x).length = pos + x.length := by simp; omega
  apply Option.some.inj
  rw [← List.getElem?_eq_getElem h2, ← List.getElem?_eq_getElem h]
  unfold lay
  rw [List.getElem?_append_right (by omega), e, Nat.sub_self, List.getElem?_drop, Nat.add_zero]

/-- the k bytes from pos on, each turned by its own -/
def bentX (s : List UInt8) (pos : Nat) (e : Nat → UInt8) (k : Nat) : List UInt8 := (List.range k).map fun j => s.getD (pos + j) 0 ^^^ e j
theorem bentX_length (s : List UInt8) (pos : Nat) (e : Nat → UInt8) (k : Nat) : (bentX s pos e k).length = k := by simp [bentX]
theorem bentX_succ (s : List UInt8) (pos : Nat) (e : Nat → UInt8) (k : Nat) (h : pos + k < s.length) : bentX s pos e (k + 1) = bentX s pos e k ++ [s[pos + k] ^^^ e k] := by
  unfold bentX
  rw [List.range_succ, List.map_append]
  simp [List.getD, h]
theorem bentX_same (s : List UInt8) (pos : Nat) (e : Nat → UInt8) (k : Nat) (hk : pos + k ≤ s.length) : bentX s pos e k = (s.drop pos).take k ↔ ∀ j, j < k → e j = 0 := by
  constructor
  · intro h j hj
    have h1 : (bentX s pos e k)[j]? = ((s.drop pos).take k)[j]? := by rw [h]
    rw [List.getElem?_take, if_pos hj, List.getElem?_drop, List.getElem?_eq_getElem (by omega : pos + j < s.length)] at h1
    unfold bentX at h1
    rw [List.getElem?_map, List.getElem?_range hj] at h1
    simp [List.getD, show pos + j < s.length by omega] at h1
    have h2 : (s[pos + j] ^^^ e j) ^^^ s[pos + j] = s[pos + j] ^^^ s[pos + j] := by rw [h1]
    rw [UInt8.xor_self, UInt8.xor_comm, ← UInt8.xor_assoc, UInt8.xor_self, UInt8.zero_xor] at h2
    exact h2
  · intro h
    apply List.ext_getElem?
    intro j
    by_cases hj : j < k
    · rw [List.getElem?_take, if_pos hj, List.getElem?_drop, List.getElem?_eq_getElem (by omega : pos + j < s.length)]
      unfold bentX
      rw [List.getElem?_map, List.getElem?_range hj]
      simp [List.getD, show pos + j < s.length by omega, h j hj]
    · rw [List.getElem?_eq_none (by rw [bentX_length]; omega), List.getElem?_eq_none (by rw [List.length_take]; omega)]
theorem lay_same (s : List UInt8) (pos k : Nat) (hk : pos + k ≤ s.length) : lay s pos ((s.drop pos).take k) = s := by
  unfold lay
  rw [List.length_take, List.length_drop, Nat.min_eq_left (by omega), List.append_assoc, ← List.drop_drop, List.take_append_drop, List.take_append_drop]

/-- a row of frames, parted at the i-th -/
theorem frames_at (l : List (List UInt8)) (i : Nat) (h : i < l.length) : frames l = frames (l.take i) ++ (frame l[i] ++ frames (l.drop (i + 1))) := by
  have e : l = l.take i ++ (l[i] :: l.drop (i + 1)) := by rw [← List.drop_eq_getElem_cons h, List.take_append_drop]
  calc frames l = frames (l.take i ++ (l[i] :: l.drop (i + 1))) := by rw [← e]
    _ = _ := by unfold frames; rw [List.flatMap_append, List.flatMap_cons]

theorem scan_at {l : List (List UInt8)} (h : ∀ a ∈ l, a.length ≤ 1048576) {t : List UInt8} (ht : (openL t).2.2 ≠ 0) : scan (frames l ++ t) = (l, (frames l).length) := by
  rw [scan_frames l t h, scan_stop ht]
  simp

/-- bent contents -/
theorem scan_content (l : List (List UInt8)) (i o k : Nat) (e : Nat → UInt8) (h : ∀ a ∈ l, a.length ≤ 1048576) (hi : i < l.length) (hk4 : k ≤ 4) (hk : o + k ≤ (l[i]).length) (hc : ∃ j, j < k ∧ e j ≠ 0) :
    scan (lay (frames l) (pl l i + 8 + o) (bentX (frames l) (pl l i + 8 + o) e k)) = (l.take i, pl l i) := by
  obtain ⟨j, hj, hej⟩ := hc
  have ha := h l[i] (List.getElem_mem hi)
  have hs := frames_at l i hi
  generalize l[i] = a at *
  generalize frames (l.drop (i + 1)) = R at *
  have hpl : pl l i = (frames (l.take i)).length := rfl
  have hs2 : frames l = (frames (l.take i) ++ (four a.length ++ four (sumL (four a.length ++ a)))) ++ (a ++ R) := by rw [hs]; simp [frame, List.append_assoc]
  have hP : (frames (l.take i) ++ (four a.length ++ four (sumL (four a.length ++ a)))).length = pl l i + 8 := by rw [List.length_append, List.length_append, four_length, four_length, hpl]
  have hx := bentX_length (frames l) (pl l i + 8 + o) e k
  have hlen : pl l i + 8 + o + k ≤ (frames l).length := by rw [hs2, List.length_append, hP, List.length_append]; omega
  have hne : bentX (frames l) (pl l i + 8 + o) e k ≠ ((frames l).drop (pl l i + 8 + o)).take k := fun hh => hej ((bentX_same _ _ e k hlen).1 hh j hj)
  have hw : ((frames l).drop (pl l i + 8 + o)).take k = (a.drop o).take k := by
    rw [hs2, ← hP, List.drop_append, List.drop_eq_nil_of_le (by omega), Nat.add_sub_cancel_left, List.nil_append, List.drop_append_of_le_length (by omega), List.take_append_of_le_length (by simp; omega)]
  rw [hw] at hne
  generalize bentX (frames l) (pl l i + 8 + o) e k = x at *
  rw [hs2, ← hP, lay_in _ _ _ _ _ (by omega)]
  have hfin : sumL (four a.length ++ lay a o x) ≠ numb (four (sumL (four a.length ++ a)) ++ (lay a o x ++ R)) := by
    rw [numb_four (sumL_lt _)]
    intro hh
    apply hne
    have e1 : four a.length ++ lay a o x = (four a.length ++ a.take o) ++ x ++ a.drop (o + x.length) := by simp [lay, List.append_assoc]
    have e2 : four a.length ++ a = (four a.length ++ a.take o) ++ (a.drop o).take k ++ a.drop (o + x.length) := by
      rw [hx, List.append_assoc, List.append_assoc, ← List.drop_drop, List.take_append_drop, List.take_append_drop]
    rw [e1, e2] at hh
    exact sum_bent _ _ _ _ (by rw [hx]; simp; omega) (by omega) hh
  have ho := open_bent a (four (sumL (four a.length ++ a))) (lay a o x) R ha (four_length _) (lay_length _ _ _ (by omega)) hfin
  rw [List.append_assoc, List.append_assoc, scan_at (fun b hb => h b (List.mem_of_mem_take hb)) ho]
  rfl

/-- a bent sum -/
theorem scan_sum (l : List (List UInt8)) (i o k : Nat) (e : Nat → UInt8) (h : ∀ a ∈ l, a.length ≤ 1048576) (hi : i < l.length) (hk : o + k ≤ 4) (hc : ∃ j, j < k ∧ e j ≠ 0) :
    scan (lay (frames l) (pl l i + 4 + o) (bentX (frames l) (pl l i + 4 + o) e k)) = (l.take i, pl l i) := by
  obtain ⟨j, hj, hej⟩ := hc
  have ha := h l[i] (List.getElem_mem hi)
  have hs := frames_at l i hi
  generalize l[i] = a at *
  generalize frames (l.drop (i + 1)) = R at *
  have hpl : pl l i = (frames (l.take i)).length := rfl
  obtain ⟨q, hq⟩ : ∃ q, q = four (sumL (four a.length ++ a)) := ⟨_, rfl⟩
  have hq4 : q.length = 4 := by rw [hq]; rfl
  have hs2 : frames l = (frames (l.take i) ++ four a.length) ++ (q ++ (a ++ R)) := by rw [hs, hq]; simp [frame, List.append_assoc]
  have hP : (frames (l.take i) ++ four a.length).length = pl l i + 4 := by rw [List.length_append, four_length, hpl]
  have hx := bentX_length (frames l) (pl l i + 4 + o) e k
  have hlen : pl l i + 4 + o + k ≤ (frames l).length := by rw [hs2, List.length_append, hP, List.length_append]; omega
  have hne : bentX (frames l) (pl l i + 4 + o) e k ≠ ((frames l).drop (pl l i + 4 + o)).take k := fun hh => hej ((bentX_same _ _ e k hlen).1 hh j hj)
  have hw : ((frames l).drop (pl l i + 4 + o)).take k = (q.drop o).take k := by
    rw [hs2, ← hP, List.drop_append, List.drop_eq_nil_of_le (by omega), Nat.add_sub_cancel_left, List.nil_append, List.drop_append_of_le_length (by omega), List.take_append_of_le_length (by simp; omega)]
  rw [hw] at hne
  generalize bentX (frames l) (pl l i + 4 + o) e k = x at *
  rw [hs2, ← hP, lay_in _ _ _ _ _ (by omega)]
  have hl4 : (lay q o x).length = 4 := by rw [lay_length _ _ _ (by omega), hq4]
  have hfin : sumL (four a.length ++ a) ≠ numb (lay q o x ++ (a ++ R)) := by
    intro hh
    apply hne
    have e1 := numb_four_inj (lay q o x) (a ++ R) hl4 _ hh.symm
    rw [← hq] at e1
    have e2 : (lay q o x).drop o = q.drop o := by rw [e1]
    have e3 : ((lay q o x).drop o).take k = x := by
      unfold lay
      rw [List.append_assoc, List.drop_append, List.drop_eq_nil_of_le (by simp; omega), show o - (q.take o).length = 0 by simp; omega, List.drop_zero, List.nil_append, List.take_append_of_le_length (by omega), List.take_of_length_le (by omega)]
    rw [← e3, e2]
  have ho := open_bent a (lay q o x) a R ha hl4 rfl hfin
  rw [List.append_assoc, scan_at (fun b hb => h b (List.mem_of_mem_take hb)) ho]
  rfl
end Go.Proofs.Ytabolnflmhfdhaa.Seal
