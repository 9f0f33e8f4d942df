/- What Trim of a volume does; bounds live through the calls. No condition. -/
import Derived.Test.YtdgaknpocbnomaaReel3
set_option linter.unusedSimpArgs false
set_option linter.unusedVariables false
namespace Go.Proofs.Ytdgaknpocbnomaa
open Go.RowKit
set_option maxHeartbeats 2000000
set_option maxRecDepth 100000

theorem tryR_fail (l : Bool) (f : Int) (h : f ≤ 1073741825) : (tryR l f).2 ≤ 1073741825 := by
  unfold tryR
  repeat' split
  all_goals first | exact h | omega | (simp only; omega) | (show _ ≤ _; simp)
theorem takeR_used (R u n : Int) (h0 : 0 ≤ u) (h1 : u ≤ R) : 0 ≤ (takeR R u n).2 ∧ (takeR R u n).2 ≤ R := by
  unfold takeR
  split
  · exact ⟨h0, h1⟩
  · split
    · simp only; omega
    · exact ⟨h0, h1⟩
theorem Vol.Ok.write {x : Vol} (h : x.Ok) (k : Bk) (hk : k.s.size ≤ 1000000) (hl : x.bl.length < 1000000) : (x.write k).2.Ok := by
  obtain ⟨o1, o2, o3, o4, o5, o6, o7, o8, o9⟩ := h
  have hf := tryR_fail x.lost x.fail o4
  obtain ⟨t1, t2⟩ := takeR_used x.room x.used (k.s.size + 4) o1 o2
  unfold Vol.write
  split
  · exact ⟨o1, o2, o3, hf, o5, o6, o7, o8, o9⟩
  split
  · exact ⟨o1, o2, o3, hf, o5, o6, o7, o8, o9⟩
  split
  · exact ⟨o1, o2, o3, hf, o5, o6, o7, o8, o9⟩
  split
  · exact ⟨t1, t2, o3, hf, o5, o6, o7, o8, o9⟩
  · refine ⟨t1, t2, o3, hf, by simp; omega, by simp; omega, by simp; omega, ?_, o9⟩
    intro j hj
    rcases List.mem_append.1 hj with hj | hj
    · exact o8 j hj
    · simp at hj
      subst hj
      exact hk
theorem Vol.Ok.flush {x : Vol} (h : x.Ok) : x.flush.2.Ok := by
  obtain ⟨o1, o2, o3, o4, o5, o6, o7, o8, o9⟩ := h
  have hf := tryR_fail x.lost x.fail o4
  unfold Vol.flush
  split
  · exact ⟨o1, o2, o3, hf, o5, o6, o7, o8, o9⟩
  · exact ⟨o1, o2, o3, hf, o5, Nat.le_refl _, o7, o8, o9⟩
theorem Vol.Ok.seek {x : Vol} (h : x.Ok) (n : Int) : (x.seek n).2.Ok := by
  obtain ⟨o1, o2, o3, o4, o5, o6, o7, o8, o9⟩ := h
  have hf := tryR_fail x.lost x.fail o4
  unfold Vol.seek
  split
  · exact ⟨o1, o2, o3, hf, o5, o6, o7, o8, o9⟩
  split
  · exact ⟨o1, o2, o3, hf, o5, o6, o7, o8, o9⟩
  · exact ⟨o1, o2, o3, hf, o5, o6, by simp only; omega, o8, o9⟩
theorem Vol.Ok.read {x : Vol} (h : x.Ok) : x.read.2.Ok := by
  obtain ⟨o1, o2, o3, o4, o5, o6, o7, o8, o9⟩ := h
  have hf := tryR_fail x.lost x.fail o4
  unfold Vol.read
  split
  · exact ⟨o1, o2, o3, hf, o5, o6, o7, o8, o9⟩
  split
  · exact ⟨o1, o2, o3, hf, o5, o6, o7, o8, o9⟩
  · rename_i k hk
    split
    · exact ⟨o1, o2, o3, hf, o5, o6, o7, o8, o9⟩
    · have := (List.getElem?_eq_some_iff.1 hk).1
      exact ⟨o1, o2, o3, hf, o5, o6, this, o8, o9⟩
/-- an own row, cut short -/
theorem own_cut {w : World} {base : Nat} {e : TypeId} {sz n m cap : Nat} {ao : Option Addr} {xs : List Value} (h : w.ownsRow base e sz (.slice ao n cap) n xs) (hm : m ≤ n) : w.ownsRow base e sz (.slice ao m cap) m (xs.take (m * sz)) := by
  have hl := h.1
  refine ⟨by rw [List.length_take, hl]; exact Nat.min_eq_left (Nat.mul_le_mul_right _ hm), ?_⟩
  rcases h.2 with ⟨hv, hn⟩ | ⟨g, cap', cur, hv, hg, hh, h1, h2, h3, h4⟩
  · cases hv
    exact Or.inl ⟨by rw [show m = 0 by omega], by omega⟩
  · cases hv
    refine Or.inr ⟨g, cap, cur, rfl, hg, hh, by omega, h2, h3, ?_⟩
    rw [← h4, List.take_take, Nat.min_eq_left (Nat.mul_le_mul_right _ hm)]
theorem bkv_take (l : List Bk) (m : Nat) : (bkv l).take (m * 3) = bkv (l.take m) := by
  induction l generalizing m with
  | nil => simp [bkv]
  | cons a l ih =>
    cases m with
    | zero => simp [bkv]
    | succ m =>
      have e : bkv (a :: l) = a.cells ++ bkv l := rfl
      rw [e, List.take_append, List.take_succ_cons, show bkv (a :: l.take m) = a.cells ++ bkv (l.take m) from rfl, ← ih m]
      rw [List.take_of_length_le (by simp [Bk.cells]; omega)]
      congr 2
      simp [Bk.cells]
      omega
end Go.Proofs.Ytdgaknpocbnomaa
