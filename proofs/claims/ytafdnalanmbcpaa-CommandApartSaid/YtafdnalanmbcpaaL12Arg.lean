/- A command as an argument. No condition. -/
import Derived.Test.YtafdnalanmbcpaaL12One
set_option linter.unusedSimpArgs false
set_option linter.unusedVariables false
namespace Go.Proofs.Ytafdnalanmbcpaa
open Go.RowKit
set_option maxHeartbeats 4000000
set_option maxRecDepth 100000

abbrev KCmd : Kd := .fields (.next (.int .i64) (.next (.int .i64) (.next (.int .i64) (.next .str (.next (.int .u64) (.next (.int .i64) (.next (.int .u32) (.next (.slice (.int .i64)) (.next (.int .i64) (.next (.int .i64) (.next (.int .i64) .last)))))))))))
theorem wf_u32 {n : Int} (h : (Lit.int .u32 n).wf = true) : 0 ≤ n ∧ n ≤ 4294967295 := by
  simpa [Lit.wf, IntKind.min, IntKind.max, IntKind.signed, IntKind.bits] using h
theorem size_list (s : ByteArray) : s.data.toList.length = s.size := by simp
theorem cmd_row {w : World} {v : Value} {xs : List Int} (h : RdRow w 1 ((Kd.int .i64).Rd w) [v] xs) : ∃ ao cap, v = .slice ao xs.length cap ∧ xs.length ≤ cap ∧ cap ≤ maxLen ∧ (∀ x ∈ xs, -9223372036854775808 ≤ x ∧ x ≤ 9223372036854775807) ∧ Sl w v xs.length 1 (i64v xs) := by
  obtain ⟨ao, cap, rfl, h2, h3, h5⟩ := row_ints h
  refine ⟨ao, cap, rfl, h2, h3, ?_, ao, cap, rfl, h2, h3, by simp [i64v], fun hp => ?_⟩
  · intro x hx
    obtain ⟨i, hi, rfl⟩ := List.getElem_of_mem hx
    obtain ⟨b, off, _, _, hc⟩ := h5 (by omega)
    exact wf_i64 (hc i xs[i] (List.getElem?_eq_getElem hi)).2
  · obtain ⟨b, off, e, hb, hc⟩ := h5 hp
    refine ⟨b, off, e, hb, fun j u hu => ?_⟩
    simp only [i64v, List.getElem?_map, Option.map_eq_some_iff] at hu
    obtain ⟨x, hx, rfl⟩ := hu
    exact (hc j x hx).1
/-- A command as an argument. -/
theorem cmd_arg {W : World} {v : Value} {x : KCmd.den} (h : KCmd.Arg W v x) : ∃ c : Cmd, ∃ dao dcap, v = .agg (c.cells dao dcap) ∧ c.Wf ∧ c.name.length ≤ maxLen ∧ Sl W (.slice dao c.disks.length dcap) c.disks.length 1 (i64v c.disks) := by
  obtain ⟨cs, rfl, h⟩ := h
  obtain ⟨a0, z0, e0, _, ⟨rfl, w0⟩, a1, z1, rfl, _, ⟨rfl, w1⟩, a2, z2, rfl, _, ⟨rfl, w2⟩, a3, z3, rfl, _, ⟨rfl, w3⟩, a4, z4, rfl, _, ⟨rfl, w4⟩, a5, z5, rfl, _, ⟨rfl, w5⟩, a6, z6, rfl, _, ⟨rfl, w6⟩, a7, z7, rfl, _, hr7, a8, z8, rfl, _, ⟨rfl, w8⟩, a9, z9, rfl, _, ⟨rfl, w9⟩, a10, z10, rfl, _, ⟨rfl, w10⟩, rfl⟩ := h
  have hr7' := hr7
  obtain ⟨ao7, cap7, h71, _⟩ := hr7
  subst h71
  obtain ⟨ao8, cap8, e8, q1, q2, q3, q4⟩ := cmd_row hr7'
  cases e8
  obtain ⟨k0, k1⟩ := wf_u64 w4
  obtain ⟨s0, s1⟩ := wf_u32 w6
  refine ⟨⟨x.1, x.2.1, x.2.2.1, x.2.2.2.1.data.toList, (x.2.2.2.2.1).toNat, x.2.2.2.2.2.1, (x.2.2.2.2.2.2.1).toNat, x.2.2.2.2.2.2.2.1, x.2.2.2.2.2.2.2.2.1, x.2.2.2.2.2.2.2.2.2.1, x.2.2.2.2.2.2.2.2.2.2.1⟩, ao7, cap7, ?_, ⟨wf_i64 w0, wf_i64 w1, wf_i64 w2, ?_, wf_i64 w5, ?_, q3, wf_i64 w8, wf_i64 w9, wf_i64 w10⟩, ?_, q4⟩
  · congr 1
    apply Array.ext'
    rw [e0]
    simp only [Cmd.cells, bs_of]
    rw [show (((x.2.2.2.2.1 : Int).toNat : Nat) : Int) = x.2.2.2.2.1 from Int.toNat_of_nonneg k0, show (((x.2.2.2.2.2.2.1 : Int).toNat : Nat) : Int) = x.2.2.2.2.2.2.1 from Int.toNat_of_nonneg s0]
    rfl
  · simp only; omega
  · simp only; omega
  · exact Nat.le_trans (Nat.le_of_eq (size_list _)) w3
end Go.Proofs.Ytafdnalanmbcpaa
