/- Small words of the laws of reel: texts cut, arguments of texts, what a plain volume writes. No condition. -/
import Derived.Test.YtdgaknpocbnomaaReel10
import Derived.Test.YtdgaknpocbnomaaArgs
set_option linter.unusedSimpArgs false
set_option linter.unusedVariables false
namespace Go.Proofs.Ytdgaknpocbnomaa
open Go.RowKit
set_option maxHeartbeats 1000000

theorem cut_any (s : ByteArray) (n : Int) (m : Nat) (hn : n = m) (t : ByteArray) (ht : t = bs (s.data.toList.take m)) (hs : s.size ≤ maxLen) (w : World) : Calls Try.prog 11 #[.string s, .int .i64 (n)] w (Same (.string t) w) := by
  have hs2 : s.size ≤ 9223372036854775807 := by unfold maxLen at hs; omega
  by_cases c : m < s.size
  · have e : t = s.extract 0 m := by rw [ht, extract_bs]; simp
    subst hn e
    clear ht hs
    (go_enter Try.func11, Try.ntmps11)
    go_wp2_with fail
    go_ret
    exact ⟨rfl, rfl⟩
  · have e : t = s := by rw [ht, List.take_of_length_le (by simp; omega), bs_of]
    subst hn e
    clear ht hs
    (go_enter Try.func11, Try.ntmps11)
    go_wp2_with fail
    go_ret
    exact ⟨rfl, rfl⟩
/-- an argument of texts, in any later world -/
theorem strs_arg {W : World} {v : Value} {xs : List ByteArray} (h : RdRow W 1 (Kd.str.Rd W) [v] xs) :
    ∃ ao cap, v = .slice ao xs.length cap ∧ xs.length ≤ 9223372036854775807 ∧ (∀ x ∈ xs, x.size ≤ maxLen) ∧ (∀ w, Below W.heap.size W w → Sl w (.slice ao xs.length cap) xs.length 1 (xs.map .string)) ∧
      (0 < xs.length → ∃ b off, ao = some ⟨b, off, none⟩ ∧ b < W.heap.size ∧ ∀ (i : Nat) (x : ByteArray), xs[i]? = some x → W.cell? ⟨b, off + i, none⟩ = some (.string x)) := by
  obtain ⟨ao, cap, rfl, hlc, hcm, hpos⟩ := row_strs h
  refine ⟨ao, cap, rfl, by unfold maxLen at hcm; omega, ?_, ?_, ?_⟩
  · intro x hx
    obtain ⟨i, hi, rfl⟩ := List.getElem_of_mem hx
    obtain ⟨_, _, _, _, h⟩ := hpos (by omega)
    exact (h i _ (List.getElem?_eq_getElem hi)).2
  · intro w' hB'
    refine ⟨ao, cap, rfl, by omega, hcm, by simp, fun hp => ?_⟩
    obtain ⟨b, off, e, hb, hc⟩ := hpos (by omega)
    refine ⟨b, off, e, Nat.lt_of_lt_of_le hb hB'.size, fun j u hu => ?_⟩
    rw [(hB'.cell (p := ⟨b, off + j, none⟩) hb)]
    simp only [List.getElem?_map, Option.map_eq_some_iff] at hu
    obtain ⟨x, hx, rfl⟩ := hu
    exact (hc j x hx).1
  · intro hp
    obtain ⟨b, off, e, hb, hc⟩ := hpos hp
    exact ⟨b, off, e, hb, fun i x hx => (hc i x hx).1⟩

theorem cut_size (s : ByteArray) (m : Nat) : (bs (s.data.toList.take m)).size ≤ m := by
  rw [bs_size, List.length_take]
  omega
/-- a plain volume at its end -/
def Vol.at (R U : Int) (L : List Bk) (sf : Nat) (er : Int) : Vol := ⟨R, U, false, 0, ⟨#[]⟩, L, sf, L.length, false, er⟩
theorem write_fits (R U : Int) (L : List Bk) (sf : Nat) (er : Int) (k : Bk) (ht : lastTorn L = false) (h : (k.s.size : Int) + 4 ≤ R - U) :
    (Vol.at R U L sf er).write k = (0, Vol.at R (U + (k.s.size + 4)) (L ++ [k]) sf er) := by
  have e : takeR R U ((k.s.size : Int) + 4) = (0, U + (k.s.size + 4)) := by
    unfold takeR
    rw [if_neg (by omega), if_pos h]
  have e2 : tryR false 0 = (0, 0) := rfl
  unfold Vol.write Vol.at
  simp [e, e2, ht]
theorem write_full (R U : Int) (L : List Bk) (sf : Nat) (er : Int) (k : Bk) (ht : lastTorn L = false) (h : ¬ (k.s.size : Int) + 4 ≤ R - U) :
    (Vol.at R U L sf er).write k = (7, Vol.at R U L sf er) := by
  have e : takeR R U ((k.s.size : Int) + 4) = (7, U) := by
    unfold takeR
    rw [if_neg (by omega), if_neg h]
  have e2 : tryR false 0 = (0, 0) := rfl
  unfold Vol.write Vol.at
  simp [e, e2, ht]
theorem lastTorn_snoc (L : List Bk) (k : Bk) : lastTorn (L ++ [k]) = k.torn := by simp [lastTorn]
theorem new_at (R : Int) : Vol.new R = Vol.at R 0 [] 0 0 := rfl
end Go.Proofs.Ytdgaknpocbnomaa
