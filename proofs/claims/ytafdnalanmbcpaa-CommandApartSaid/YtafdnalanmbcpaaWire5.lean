/- Dec of wire: the byte at the end, behind an error; the law package's Cut. -/
import Derived.Test.YtafdnalanmbcpaaWire4
set_option linter.unusedSimpArgs false
set_option linter.unusedVariables false
namespace Go.Proofs.Ytafdnalanmbcpaa
open Go.RowKit
set_option maxHeartbeats 1000000

theorem dec_byte_end (b : Nat) (w : World) (h : Blk w b #[.string (bs []), .int .i64 (0)] 61) :
    Calls Try.prog 29 #[.pointer (some ⟨b, 0, none⟩)] w (fun e w' => e = .returned (.int .u8 0) ∧ w' = w.setCell ⟨b, 1, none⟩ (.int .i64 (2))) := by
  have hc0 := h.cell 0
  have hc1 := h.cell 1
  have hf1 := h.frozen 1
  have h2 := h.set 1 (.int .i64 (2))
  have hc2 := h2.cell 1
  have hne : (bs []).toList.isEmpty = true := by rw [bs_list]; rfl
  simp only [List.getElem?_toArray, List.getElem?_cons_zero, List.getElem?_cons_succ] at hc0 hc1
  simp at hc2
  generalize bs [] = s at *
  (go_enter Try.func29, Try.ntmps29)
  go_wp2_with fail
  go_ret
  exact ⟨rfl, rfl⟩

theorem dec_byte_err (x : ByteArray) (k : Int) (hk : k ≠ 0) (b : Nat) (w : World) (h : Blk w b #[.string x, .int .i64 (k)] 61) :
    Calls Try.prog 29 #[.pointer (some ⟨b, 0, none⟩)] w (Same (.int .u8 0) w) := by
  have hc0 := h.cell 0
  have hc1 := h.cell 1
  simp only [List.getElem?_toArray, List.getElem?_cons_zero, List.getElem?_cons_succ] at hc0 hc1
  have hk1 : (k == 0) = false := by simpa using hk
  have hk2 : (k != 0) = true := by simpa using hk
  (go_enter Try.func29, Try.ntmps29)
  go_wp2_with fail
  go_ret
  exact ⟨rfl, rfl⟩

theorem law_Cut (s : ByteArray) (hs : s.size ≤ 9223372036854775807) (n : Nat) (hn : n ≤ 9223372036854775807) (w : World) :
    Calls Try.prog 8 #[.string s, .int .i64 (n)] w (Same (.string (bs (s.data.toList.take n))) w) := by
  have hl : s.data.toList.length = s.size := by simp
  by_cases c : n < s.size
  · have e : s.extract 0 n = bs (s.data.toList.take n) := by rw [extract_bs]; simp
    have E := Lib.hid e
    clear e
    (go_enter Try.func8, Try.ntmps8)
    go_wp2_with fail
    go_ret
    exact ⟨by rw [← E.out]; rfl, rfl⟩
  · have e : s.data.toList.take n = s.data.toList := List.take_of_length_le (by omega)
    rw [e, bs_of]
    clear e
    (go_enter Try.func8, Try.ntmps8)
    go_wp2_with fail
    go_ret
    exact ⟨rfl, rfl⟩
end Go.Proofs.Ytafdnalanmbcpaa
