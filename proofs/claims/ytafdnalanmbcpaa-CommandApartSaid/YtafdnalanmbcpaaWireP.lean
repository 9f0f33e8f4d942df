/- Dec of wire in plain Lean: what U, I, B, S and List take of any bytes, and that they take what was written. No condition. -/
import Derived.Test.YtafdnalanmbcpaaWire5
set_option linter.unusedSimpArgs false
set_option linter.unusedVariables false
namespace Go.Proofs.Ytafdnalanmbcpaa
open Go.RowKit

namespace Wire
/-- the groups of a number; v so far -/
def take1 : List UInt8 → Bool → Nat → Nat × List UInt8 × Int
  | [], _, _ => (0, [], 2)
  | c :: l, first, v => if (first = true ∧ c = 128) ∨ 2 ^ 57 ≤ v then (0, l, 3) else if c < 128 then (v * 128 + c.toNat, l, 0) else take1 l false (v * 128 + (c.toNat - 128))
def decU (l : List UInt8) (k : Int) : Nat × List UInt8 × Int := if k = 0 then take1 l true 0 else (0, l, k)
def decI (most : Int) (l : List UInt8) (k : Int) : Nat × List UInt8 × Int :=
  if most.toNat < (decU l k).1 then (0, (decU l k).2.1, if (decU l k).2.2 = 0 then 11 else (decU l k).2.2) else decU l k
def decB (l : List UInt8) (k : Int) : Bool × List UInt8 × Int :=
  if k = 0 then (match l with | [] => (false, [], 2) | c :: l => if 1 < c then (false, l, 3) else (c == 1, l, 0)) else (false, l, k)
def decS (most : Int) (l : List UInt8) (k : Int) : List UInt8 × List UInt8 × Int :=
  if (decI most l k).2.2 = 0 then
    if (decI most l k).2.1.length < (decI most l k).1 then ([], (decI most l k).2.1, 2) else ((decI most l k).2.1.take (decI most l k).1, (decI most l k).2.1.drop (decI most l k).1, 0)
  else ([], (decI most l k).2.1, (decI most l k).2.2)
def decIs (each : Int) : Nat → List UInt8 → Int → List Nat × List UInt8 × Int
  | 0, l, k => ([], l, k)
  | m + 1, l, k => if k = 0 then ((decI each l k).1 :: (decIs each m (decI each l k).2.1 (decI each l k).2.2).1, (decIs each m (decI each l k).2.1 (decI each l k).2.2).2) else ([], l, k)
def decL (most each : Int) (l : List UInt8) (k : Int) : List Nat × List UInt8 × Int :=
  if (decIs each (decI most l k).1 (decI most l k).2.1 (decI most l k).2.2).2.2 = 0 then decIs each (decI most l k).1 (decI most l k).2.1 (decI most l k).2.2 else ([], (decIs each (decI most l k).1 (decI most l k).2.1 (decI most l k).2.2).2)
def decD (l : List UInt8) (k : Int) : Int := if l ≠ [] ∧ k = 0 then 3 else k

theorem take1_len (l : List UInt8) (f : Bool) (v : Nat) : (take1 l f v).2.1.length ≤ l.length := by
  induction l generalizing f v with
  | nil => simp [take1]
  | cons c l ih =>
    rw [take1]
    split
    · simp
    · split
      · simp
      · have := ih false (v * 128 + (c.toNat - 128))
        simp only [List.length_cons]
        omega
theorem take1_lt (l : List UInt8) (f : Bool) (v : Nat) : (take1 l f v).1 < 2 ^ 64 := by
  induction l generalizing f v with
  | nil => simp [take1]
  | cons c l ih =>
    rw [take1]
    split
    · simp
    · rename_i h
      split
      · rename_i h2
        have h3 : c.toNat < 128 := h2
        show v * 128 + c.toNat < 2 ^ 64
        omega
      · exact ih _ _
theorem decU_len (l : List UInt8) (k : Int) : (decU l k).2.1.length ≤ l.length := by
  unfold decU
  split
  · exact take1_len _ _ _
  · exact Nat.le_refl _
theorem decU_lt (l : List UInt8) (k : Int) : (decU l k).1 < 2 ^ 64 := by
  unfold decU
  split
  · exact take1_lt _ _ _
  · simp
theorem decI_len (most : Int) (l : List UInt8) (k : Int) : (decI most l k).2.1.length ≤ l.length := by
  unfold decI
  split <;> exact decU_len _ _
theorem decI_le (most : Int) (l : List UInt8) (k : Int) : (decI most l k).1 ≤ most.toNat := by
  unfold decI
  split
  · simp
  · omega
theorem decI_lt (most : Int) (l : List UInt8) (k : Int) : (decI most l k).1 < 2 ^ 64 := by
  unfold decI
  split
  · simp
  · exact decU_lt _ _
theorem decS_len (most : Int) (l : List UInt8) (k : Int) : (decS most l k).2.1.length ≤ l.length := by
  have := decI_len most l k
  unfold decS
  split
  · split
    · exact this
    · simp; omega
  · exact this
theorem decB_len (l : List UInt8) (k : Int) : (decB l k).2.1.length ≤ l.length := by
  unfold decB
  split
  · cases l with
    | nil => simp
    | cons c l => simp only; split <;> simp
  · exact Nat.le_refl _
theorem decIs_len (each : Int) (m : Nat) (l : List UInt8) (k : Int) : (decIs each m l k).2.1.length ≤ l.length ∧ (decIs each m l k).1.length ≤ m := by
  induction m generalizing l k with
  | zero => simp [decIs]
  | succ m ih =>
    rw [decIs]
    split
    · have h1 := ih (decI each l k).2.1 (decI each l k).2.2
      have h2 := decI_len each l k
      simp only [List.length_cons]
      omega
    · simp
theorem decL_len (most each : Int) (l : List UInt8) (k : Int) : (decL most each l k).2.1.length ≤ l.length := by
  have h1 := decIs_len each (decI most l k).1 (decI most l k).2.1 (decI most l k).2.2
  have h2 := decI_len most l k
  unfold decL
  split <;> (try simp only) <;> omega

theorem u8_toNat_ofNat (n : Nat) (h : n < 256) : (UInt8.ofNat n).toNat = n := by
  rw [UInt8.toNat_ofNat']
  exact Nat.mod_eq_of_lt h
theorem u8_lt128 (n : Nat) (h : n < 256) : UInt8.ofNat n < 128 ↔ n < 128 := by
  rw [UInt8.lt_iff_toNat_lt, u8_toNat_ofNat n h]
  exact Iff.rfl
theorem u8_eq128 (n : Nat) (h : n < 256) : UInt8.ofNat n = 128 ↔ n = 128 := by
  rw [← UInt8.toNat_inj, u8_toNat_ofNat n h]
  exact Iff.rfl

/-- the step of a group that isn't the last -/
theorem take1_step (n : Nat) (hn : n < 2 ^ 64) (k : Nat) (l : List UInt8) (f : Bool) (hf : f = true → 1 ≤ n / 2 ^ (7 * (k + 1)) ∧ n / 2 ^ (7 * (k + 1)) < 128) :
    take1 (UInt8.ofNat (n / 2 ^ (7 * (k + 1)) % 128 + 128) :: l) f (n / 2 ^ (7 * (k + 1 + 1))) = take1 l false (n / 2 ^ (7 * (k + 1))) := by
  have e1 : n / 2 ^ (7 * (k + 1 + 1)) = n / 2 ^ (7 * (k + 1)) / 128 := by
    rw [Nat.div_div_eq_div_mul, show 2 ^ (7 * (k + 1)) * 128 = 2 ^ (7 * (k + 1 + 1)) by rw [show 7 * (k + 1 + 1) = 7 * (k + 1) + 7 by omega, Nat.pow_add]]
  have e3 : 2 ^ 7 ≤ 2 ^ (7 * (k + 1)) := Nat.pow_le_pow_right (by omega) (by omega)
  have e2 : n / 2 ^ (7 * (k + 1)) < 2 ^ 57 := by
    have e4 : n / 2 ^ (7 * (k + 1)) ≤ n / 2 ^ 7 := Nat.div_le_div_left e3 (by decide)
    omega
  rw [e1]
  generalize hq : n / 2 ^ (7 * (k + 1)) = q at *
  have h1 : q % 128 + 128 < 256 := by omega
  have h2 : ¬ ((f = true ∧ UInt8.ofNat (q % 128 + 128) = 128) ∨ 2 ^ 57 ≤ q / 128) := by
    rw [u8_eq128 _ h1]
    rintro (⟨h, e⟩ | h)
    · have := hf h
      omega
    · omega
  rw [take1, if_neg h2, if_neg (by rw [u8_lt128 _ h1]; omega), u8_toNat_ofNat _ h1, show q / 128 * 128 + (q % 128 + 128 - 128) = q by omega]
/-- what was written is taken -/
theorem take1_hi (n : Nat) (hn : n < 2 ^ 64) (k : Nat) (rest : List UInt8) (f : Bool) (hf : f = true → k = 0 ∨ (1 ≤ n / 2 ^ (7 * k) ∧ n / 2 ^ (7 * k) < 128)) : take1 (hi n k ++ rest) f (n / 2 ^ (7 * (k + 1))) = (n, rest, 0) := by
  induction k generalizing f with
  | zero =>
    have h1 : n % 128 < 256 := by omega
    have h2 : ¬ ((f = true ∧ n % 128 = 128) ∨ 2 ^ 57 ≤ n / 2 ^ (7 * (0 + 1))) := by
      rintro (⟨_, h⟩ | h) <;> omega
    rw [hi, List.cons_append, List.nil_append, take1, if_neg (by rw [u8_eq128 _ h1]; exact h2), if_pos (by rw [u8_lt128 _ h1]; omega), u8_toNat_ofNat _ h1]
    refine Prod.ext ?_ rfl
    show n / 2 ^ (7 * (0 + 1)) * 128 + n % 128 = n
    omega
  | succ k ih =>
    rw [hi, List.cons_append, take1_step n hn k _ f (fun h => (hf h).resolve_left (by omega))]
    exact ih false (fun h => by cases h)
/-- what is cut off lacks bytes -/
theorem take1_cut (n : Nat) (hn : n < 2 ^ 64) (k : Nat) (j : Nat) (hj : j ≤ k) (f : Bool) (hf : f = true → k = 0 ∨ (1 ≤ n / 2 ^ (7 * k) ∧ n / 2 ^ (7 * k) < 128)) : take1 ((hi n k).take j) f (n / 2 ^ (7 * (k + 1))) = (0, [], 2) := by
  induction k generalizing f j with
  | zero =>
    obtain rfl : j = 0 := by omega
    rfl
  | succ k ih =>
    cases j with
    | zero => rfl
    | succ j =>
      rw [hi, List.take_succ_cons, take1_step n hn k _ f (fun h => (hf h).resolve_left (by omega))]
      exact ih j (by omega) false (fun h => by cases h)
theorem grp_head (n : Nat) : grp n = 0 ∨ (1 ≤ n / 2 ^ (7 * grp n) ∧ n / 2 ^ (7 * grp n) < 128) := by
  by_cases h : grp n = 0
  · exact Or.inl h
  · refine Or.inr ⟨?_, grp_spec n⟩
    have := grp_big n (grp n - 1) (by omega)
    rw [show 7 * grp n = 7 * (grp n - 1) + 7 by omega, Nat.pow_add, ← Nat.div_div_eq_div_mul]
    omega
theorem grp_zero (n : Nat) : n / 2 ^ (7 * (grp n + 1)) = 0 := by
  have := grp_spec n
  rw [show 7 * (grp n + 1) = 7 * grp n + 7 by omega, Nat.pow_add, ← Nat.div_div_eq_div_mul]
  exact Nat.div_eq_of_lt this
theorem decU_num (n : Nat) (hn : n < 2 ^ 64) (rest : List UInt8) : decU (num n ++ rest) 0 = (n, rest, 0) := by
  unfold decU num
  have h := take1_hi n hn (grp n) rest true (fun _ => grp_head n)
  rw [grp_zero n] at h
  rw [if_pos rfl]
  exact h
theorem decU_cut (n : Nat) (hn : n < 2 ^ 64) (j : Nat) (hj : j < (num n).length) : decU ((num n).take j) 0 = (0, [], 2) := by
  rw [num_length] at hj
  unfold decU num
  have h := take1_cut n hn (grp n) j (by omega) true (fun _ => grp_head n)
  rw [grp_zero n] at h
  rw [if_pos rfl]
  exact h
/-- what is taken was written -/
theorem take1_inv (l : List UInt8) (f : Bool) (v0 v : Nat) (rest : List UInt8) (h : take1 l f v0 = (v, rest, 0)) : ∃ k, l = hi v k ++ rest ∧ v / 2 ^ (7 * (k + 1)) = v0 ∧ (f = true → k = 0 ∨ v0 ≠ 0 ∨ v / 2 ^ (7 * k) ≠ 0) := by
  induction l generalizing f v0 with
  | nil => simp [take1] at h
  | cons c l ih =>
    rw [take1] at h
    have hcl : c.toNat < 256 := c.toNat_lt
    have hcr : UInt8.ofNat c.toNat = c := UInt8.ofNat_toNat
    split at h
    · simp at h
    · rename_i h1
      split at h
      · rename_i h2
        have h3 : c.toNat < 128 := h2
        simp only [Prod.mk.injEq] at h
        obtain ⟨rfl, rfl, _⟩ := h
        refine ⟨0, ?_, by omega, fun _ => Or.inl rfl⟩
        rw [hi, show (v0 * 128 + c.toNat) % 128 = c.toNat by omega, hcr]
        rfl
      · rename_i h2
        have h3 : ¬ c.toNat < 128 := h2
        obtain ⟨k, rfl, e, _⟩ := ih _ _ h
        have e2 : v / 2 ^ (7 * (k + 1 + 1)) = v0 := by
          rw [show 7 * (k + 1 + 1) = 7 * (k + 1) + 7 by omega, Nat.pow_add, ← Nat.div_div_eq_div_mul, e]
          omega
        refine ⟨k + 1, ?_, e2, ?_⟩
        · rw [hi, e, show (v0 * 128 + (c.toNat - 128)) % 128 + 128 = c.toNat by omega, hcr]
          rfl
        · intro hf
          refine Or.inr ?_
          by_cases h0 : v0 = 0
          · refine Or.inr ?_
            rw [e]
            have h5 : c.toNat ≠ 128 := by
              intro e3
              exact h1 (Or.inl ⟨hf, by rw [← hcr, e3]; rfl⟩)
            omega
          · exact Or.inl h0
theorem decU_inv (l : List UInt8) (k : Int) (v : Nat) (rest : List UInt8) (h : decU l k = (v, rest, 0)) : k = 0 ∧ l = num v ++ rest ∧ v < 2 ^ 64 := by
  have hlt := decU_lt l k
  rw [h] at hlt
  unfold decU at h
  by_cases hk : k = 0
  · rw [if_pos hk] at h
    obtain ⟨j, e, e1, e2⟩ := take1_inv _ _ _ _ _ h
    have h7 : v / 2 ^ (7 * j) < 128 := by
      rw [show 7 * (j + 1) = 7 * j + 7 by omega, Nat.pow_add, ← Nat.div_div_eq_div_mul] at e1
      omega
    have h8 := grp_le v j h7
    have h9 : grp v = j := by
      rcases Nat.lt_or_ge (grp v) j with h | h
      · exfalso
        rcases e2 rfl with h2 | h2 | h2
        · omega
        · exact h2 rfl
        · apply h2
          have h3 := grp_zero v
          obtain ⟨d, rfl⟩ : ∃ d, j = grp v + 1 + d := ⟨j - grp v - 1, by omega⟩
          rw [Nat.mul_add, Nat.pow_add, ← Nat.div_div_eq_div_mul, h3, Nat.zero_div]
      · omega
    refine ⟨hk, ?_, hlt⟩
    unfold num
    rw [h9]
    exact e
  · rw [if_neg hk] at h
    simp only [Prod.mk.injEq] at h
    exact absurd h.2.2 hk
theorem decI_num (most : Int) (n : Nat) (hn : n < 2 ^ 64) (hm : (n : Int) ≤ most) (rest : List UInt8) : decI most (num n ++ rest) 0 = (n, rest, 0) := by
  unfold decI
  rw [decU_num n hn rest, if_neg (by simp; omega)]
theorem decI_cut (most : Int) (n : Nat) (hn : n < 2 ^ 64) (j : Nat) (hj : j < (num n).length) : decI most ((num n).take j) 0 = (0, [], 2) := by
  unfold decI
  rw [decU_cut n hn j hj, if_neg (by simp)]
theorem decI_inv (most : Int) (l : List UInt8) (k : Int) (v : Nat) (rest : List UInt8) (h : decI most l k = (v, rest, 0)) : k = 0 ∧ l = num v ++ rest ∧ (v : Int) ≤ max most 0 ∧ v < 2 ^ 64 := by
  unfold decI at h
  split at h
  · simp only [Prod.mk.injEq] at h
    obtain ⟨_, _, h⟩ := h
    split at h
    · cases h
    · rename_i h2; exact absurd h h2
  · rename_i h2
    obtain ⟨a, b, c⟩ := decU_inv _ _ _ _ h
    rw [h] at h2
    simp only at h2
    exact ⟨a, b, by omega, c⟩
theorem decS_text (most : Int) (s : List UInt8) (hs : s.length < 2 ^ 64) (hm : (s.length : Int) ≤ most) (rest : List UInt8) : decS most (num s.length ++ s ++ rest) 0 = (s, rest, 0) := by
  unfold decS
  rw [List.append_assoc, decI_num most _ hs hm, if_pos rfl, if_neg (by simp)]
  simp
theorem decS_cut (most : Int) (s : List UInt8) (hs : s.length < 2 ^ 64) (hm : (s.length : Int) ≤ most) (j : Nat) (hj : j < (num s.length ++ s).length) : (decS most ((num s.length ++ s).take j) 0).1 = [] ∧ (decS most ((num s.length ++ s).take j) 0).2.2 = 2 := by
  rw [List.take_append]
  by_cases h : j < (num s.length).length
  · rw [show j - (num s.length).length = 0 by omega, List.take_zero, List.append_nil]
    unfold decS
    rw [decI_cut most _ hs j h, if_neg (by simp)]
    exact ⟨rfl, rfl⟩
  · rw [List.take_of_length_le (by omega)]
    unfold decS
    rw [decI_num most _ hs hm, if_pos rfl]
    simp only [List.length_append] at hj
    rw [if_pos (by simp only [List.length_take]; omega)]
    exact ⟨rfl, rfl⟩
theorem decS_inv (most : Int) (l : List UInt8) (k : Int) (s rest : List UInt8) (h : decS most l k = (s, rest, 0)) : k = 0 ∧ l = num s.length ++ s ++ rest ∧ (s.length : Int) ≤ max most 0 := by
  unfold decS at h
  split at h
  · rename_i h0
    split at h
    · simp at h
    · rename_i h2
      obtain ⟨a, b, c, d⟩ := decI_inv most l k _ _ (show decI most l k = ((decI most l k).1, (decI most l k).2.1, 0) by rw [← h0])
      generalize decI most l k = r at *
      simp only [Prod.mk.injEq] at h
      obtain ⟨rfl, rfl, _⟩ := h
      have e : (r.2.1.take r.1).length = r.1 := by simp; omega
      refine ⟨a, ?_, by rw [e]; exact c⟩
      rw [e, List.append_assoc, List.take_append_drop]
      exact b
  · rename_i h2
    simp only [Prod.mk.injEq] at h
    exact absurd h.2.2 h2
theorem decB_truth (x : Bool) (rest : List UInt8) : decB ((if x then 1 else 0) :: rest) 0 = (x, rest, 0) := by
  cases x <;> rfl
end Wire
end Go.Proofs.Ytafdnalanmbcpaa
