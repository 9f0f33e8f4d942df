/- Blocks of texts, plainly: what a crash and a Trim leave of them. No condition. -/
import Derived.Test.YtdgaknpocbnomaaL05Blocks
set_option linter.unusedSimpArgs false
set_option linter.unusedVariables false
namespace Go.Proofs.Ytdgaknpocbnomaa
open Go.RowKit

/-- blocks of these texts -/
def plainB (A : List ByteArray) : List Bk := A.map (fun t => ⟨t, false, false⟩)
theorem plainB_len (A : List ByteArray) : (plainB A).length = A.length := by simp [plainB]
theorem plainB_torn (A : List ByteArray) : lastTorn (plainB A) = false := by
  unfold lastTorn plainB
  rcases h : (A.map (fun t => (⟨t, false, false⟩ : Bk))).getLast? with _ | k
  · rfl
  · have := List.mem_of_getLast? h
    simp only [List.mem_map] at this
    obtain ⟨_, _, rfl⟩ := this
    rfl
theorem plainB_snoc (A : List ByteArray) (t : ByteArray) : plainB (A ++ [t]) = plainB A ++ [⟨t, false, false⟩] := by simp [plainB]
theorem plainB_take (A : List ByteArray) (n : Nat) : (plainB A).take n = plainB (A.take n) := by simp [plainB, List.map_take]
theorem plainB_get (A : List ByteArray) (n : Nat) : (plainB A)[n]? = (A[n]?).map (fun t => ⟨t, false, false⟩) := by simp [plainB]
theorem textv_plain (A : List ByteArray) : textv (plainB A) = A.map .string := by simp [textv, plainB, Bk.text]
theorem flush_at (R U : Int) (L : List Bk) (sf : Nat) (er : Int) : (Vol.at R U L sf er).flush = (0, Vol.at R U L L.length er) := by
  have e2 : tryR false 0 = (0, 0) := rfl
  unfold Vol.flush Vol.at
  simp [e2]
/-- a crash and a Trim, one behind the other, of blocks of texts -/
theorem crash_plain (R U : Int) (A : List ByteArray) (n : Nat) (er : Int) (p : Nat) (ch : List Int) (hn : n ≤ A.length) :
    ∃ U1 L1 s1 k, (Vol.stand R U (plainB A) n er p).crash ch = Vol.stand R U1 L1 s1 er 0 ∧ k = n + (pickR ch 0 (((A.length - n : Nat) : Int) + 1)).toNat ∧
      (∃ e U2 s2, (Vol.stand R U1 L1 s1 er 0).trim = (e, Vol.stand R U2 (plainB (A.take k)) s2 er 0) ∧ (e = 0 ∨ e = 5)) := by
  obtain ⟨k, hk⟩ : ∃ k, k = n + (pickR ch 0 (((A.length - n : Nat) : Int) + 1)).toNat := ⟨_, rfl⟩
  have e2 : tryR false 0 = (0, 0) := rfl
  have hout : crashOut (Vol.stand R U (plainB A) n er p) ch = plainB (A.take k) ∨ ∃ t, crashOut (Vol.stand R U (plainB A) n er p) ch = plainB (A.take k) ++ [⟨t, false, true⟩] := by
    unfold crashOut Vol.stand
    simp only [plainB_len, plainB_get, plainB_take]
    rw [← hk]
    rcases h : A[k]? with _ | t
    · exact Or.inl rfl
    · simp only [Option.map_some]
      split
      · exact Or.inr ⟨_, rfl⟩
      · exact Or.inl rfl
  refine ⟨takeAll R (crashOut (Vol.stand R U (plainB A) n er p) ch) 0, crashOut (Vol.stand R U (plainB A) n er p) ch, (crashOut (Vol.stand R U (plainB A) n er p) ch).length, k, rfl, hk, ?_⟩
  rcases hout with h | ⟨t, h⟩
  · rw [h]
    refine ⟨5, takeAll R (plainB (A.take k)) 0, (plainB (A.take k)).length, ?_, Or.inr rfl⟩
    unfold Vol.trim Vol.stand
    simp only [e2, plainB_torn]
    rfl
  · rw [h]
    have hl : (plainB (A.take k) ++ [(⟨t, false, true⟩ : Bk)]).length - 1 = (plainB (A.take k)).length := by rw [List.length_append]; simp
    refine ⟨0, (giveR (takeAll R (plainB (A.take k) ++ [⟨t, false, true⟩]) 0) (lastSize (plainB (A.take k) ++ [⟨t, false, true⟩]) + 4)).2, min (plainB (A.take k) ++ [(⟨t, false, true⟩ : Bk)]).length ((plainB (A.take k) ++ [(⟨t, false, true⟩ : Bk)]).length - 1), ?_, Or.inl rfl⟩
    unfold Vol.trim Vol.stand
    simp only [e2, lastTorn_snoc]
    rw [if_neg (by simp), if_neg (by simp), if_neg (by simp)]
    rw [hl, List.take_left, Nat.zero_min]
theorem seen_plain (A : List ByteArray) (j : Nat) (h : Seen (plainB A) j) : j = A.length := by
  obtain ⟨h1, _, h3⟩ := h
  rw [plainB_len] at h1
  rcases Nat.lt_or_ge j A.length with hl | hl
  · have := h3 ⟨A[j], false, false⟩ (by rw [plainB_get, List.getElem?_eq_getElem hl]; rfl)
    cases this
  · omega
theorem pick_g (C n : Nat) (kp pt : Int) (hn : n ≤ C) : n ≤ n + (pickR [kp, pt] 0 (((C - n : Nat) : Int) + 1)).toNat ∧ n + (pickR [kp, pt] 0 (((C - n : Nat) : Int) + 1)).toNat ≤ C ∧ (0 ≤ kp → kp ≤ (C : Int) - n → ((n + (pickR [kp, pt] 0 (((C - n : Nat) : Int) + 1)).toNat : Nat) : Int) = n + kp) := by
  have h := pickR_bd [kp, pt] 0 (((C - n : Nat) : Int) + 1)
  have h2 := h.2.1 (by omega)
  refine ⟨by omega, by omega, fun h3 h4 => ?_⟩
  have e : pickR [kp, pt] 0 (((C - n : Nat) : Int) + 1) = kp := by
    unfold pickR
    rw [if_pos ⟨by decide, by simp, by omega⟩]
    show kp % (((C - n : Nat) : Int) + 1) = kp
    exact Int.emod_eq_of_lt h3 (by omega)
  rw [e]
  omega
end Go.Proofs.Ytdgaknpocbnomaa
