/- Bounds live through Trim and Skip of a volume. No condition. -/
import Derived.Test.YtdgaknpocbnomaaReel6
set_option linter.unusedSimpArgs false
set_option linter.unusedVariables false
namespace Go.Proofs.Ytdgaknpocbnomaa
open Go.RowKit

theorem markFrom_le (l : List Bk) (n k : Nat) (h : markFrom l n = some k) : k ≤ n + l.length := by
  induction l generalizing n with
  | nil => cases h
  | cons a l ih =>
    rw [markFrom] at h
    simp only [List.length_cons]
    split at h
    · cases h; omega
    · have := ih _ h; omega
theorem Vol.Ok.skip {x : Vol} (h : x.Ok) : x.skip.2.Ok := by
  obtain ⟨o1, o2, o3, o4, o5, o6, o7, o8, o9⟩ := h
  have hf := tryR_fail x.lost x.fail o4
  unfold Vol.skip
  split
  · exact ⟨o1, o2, o3, hf, o5, o6, o7, o8, o9⟩
  split
  · exact ⟨o1, o2, o3, hf, o5, o6, o7, o8, o9⟩
  · rename_i n hn
    have := markFrom_le _ _ _ hn
    simp only [List.length_drop] at this
    exact ⟨o1, o2, o3, hf, o5, o6, by simp only; omega, o8, o9⟩
theorem giveR_used (R u n : Int) (h0 : 0 ≤ u) (h1 : u ≤ R) : 0 ≤ (giveR u n).2 ∧ (giveR u n).2 ≤ R := by
  unfold giveR
  repeat' split
  all_goals first | exact ⟨h0, h1⟩ | (simp only; omega)
theorem Vol.Ok.trim {x : Vol} (h : x.Ok) : x.trim.2.Ok := by
  obtain ⟨o1, o2, o3, o4, o5, o6, o7, o8, o9⟩ := h
  have hf := tryR_fail x.lost x.fail o4
  obtain ⟨t1, t2⟩ := giveR_used x.room x.used (lastSize x.bl + 4) o1 o2
  unfold Vol.trim
  split
  · exact ⟨o1, o2, o3, hf, o5, o6, o7, o8, o9⟩
  split
  · exact ⟨o1, o2, o3, hf, o5, o6, o7, o8, o9⟩
  split
  · exact ⟨o1, o2, o3, hf, o5, o6, o7, o8, o9⟩
  · refine ⟨t1, t2, o3, hf, by simp; omega, by simp; omega, by simp; omega, ?_, o9⟩
    intro k hk
    exact o8 k (List.mem_of_mem_take hk)
end Go.Proofs.Ytdgaknpocbnomaa
