/- What B of wire's Enc answers. -/
import Derived.Test.YthegfbfggbpahaaWire3
set_option linter.unusedSimpArgs false
set_option linter.unusedVariables false
namespace Go.Proofs.Ythegfbfggbpahaa
open Go.RowKit
set_option maxHeartbeats 1000000

theorem enc_B (ls : List Bool) (base b : Nat) (v : Value) (l : List UInt8) (hlen : l.length + 10 * ls.length ≤ 1000000000) (arg : Value) (w : World) (hE : EncV w base b v l) (ha : Sl w arg ls.length 1 (boolv ls)) (hap : Apart w base b arg) :
    Calls Try.prog 11 #[.pointer (some ⟨b, 0, none⟩), arg] w (fun e w' => e = .returned (.pointer (some ⟨b, 0, none⟩)) ∧ EncTo w base b (l ++ Wire.truths ls) w') := by
  obtain ⟨ao, cap, rfl, h1, h2, hl3, h3⟩ := ha
  have hap := hap _ _ _ rfl
  have Hap := Lib.hid hap
  have H3 := Lib.hid h3
  clear hap h3
  generalize hlen' : ls.length = len at *
  have Hlen := Lib.hid hlen'
  have hcm : cap ≤ 9223372036854775807 := by unfold maxLen at h2; omega
  clear hlen'
  (go_enter Try.func11, Try.ntmps11)
  go_wp2_with fail
  go_loopw [9] (fun i wr => ∃ j : Nat, j ≤ len ∧ i = .int .i64 (j) ∧ EncTo w base b (l ++ Wire.truths (ls.take j)) wr) (fun i _ => len - (intOf i).toNat)
  case atStart => exact ⟨0, by omega, rfl, by simpa [Wire.truths] using EncTo.refl hE⟩
  case round =>
    obtain ⟨j, hj, rfl, v1, hE1, hO1⟩ := hrel
    by_cases hlt : j < len
    · have hjl : j < ls.length := by have := Hlen.out; omega
      obtain ⟨bb, off, rfl, hb1, hcell⟩ := H3.out (by omega)
      have hc0 := hcell j (.bool ls[j]) (by simp [boolv, hjl])
      have hc : wr.cell? ⟨bb, off + j, none⟩ = some (.bool ls[j]) := (hO1.cell (p := ⟨bb, off + j, none⟩) hb1 (Hap.out (by omega) ⟨bb, off, none⟩ rfl)).trans hc0
      have Hst : Hid (l ++ Wire.truths (ls.take (j + 1)) = (l ++ Wire.truths (ls.take j)) ++ [if ls[j] then 1 else 0]) := by
        refine Lib.hid ?_
        rw [take_snoc' ls j hjl]
        simp only [Wire.truths, List.map_append, List.map_cons, List.map_nil, List.append_assoc]
      have hLb : (l ++ Wire.truths (ls.take j)).length + 10 ≤ 1000000000 := by
        have h2 : (ls.take j).length = j := List.length_take_of_le (by omega)
        simp only [List.length_append, Wire.truths, List.length_map]
        omega
      generalize ls[j] = x at *
      generalize l ++ Wire.truths (ls.take j) = L at *
      clear hcell hc0
      have hn1 : (L.length + 1) * 1 ≤ 140737488355328 := by omega
      have hn2 : L.length + 1 ≤ maxLen := by unfold maxLen; omega
      have hn3 : base ≤ wr.heap.size + 1 := by have := hE1.le; omega
      have hc2 := hE1.blk.cell 0
      have hf2 := hE1.blk.frozen 0
      simp only [List.getElem?_toArray, List.getElem?_cons_zero] at hc2
      have hap2 := hE1.apart
      cases x
      ·
        have Hbv : Hid (byv L ++ [.int .u8 0] = byv (L ++ [0])) := by refine Lib.hid ?_; simp [byv]
        go_wp2_with (at_builtin; refine wpl_app rfl rfl ei_byte base rfl (hE1.own.alloc _) [.int .u8 0] rfl rfl (Blk.new wr _ _) rfl hn1 hn2 (by simpa using hn3) ?_; intro v' w1 ho1 hk1; rw [Hbv.out] at ho1; obtain ⟨ao', cap', rfl, _, _, _, _⟩ := Sl.of_own ho1; have hb1 : Blk w1 b #[v1] 25 := Blk.keep (hE1.blk.alloc _) hk1 hap2; have hc1 := hb1.cell 0; have hf1 := hb1.frozen 0; simp only [List.getElem?_toArray, List.getElem?_cons_zero] at hc1)
        have hmore := EncTo.more' hE1 _ _ hk1 (l' := L ++ [0]) (by simpa using ho1)
        obtain ⟨v3, hE3, hO3⟩ := EncTo.trans hO1 hmore
        refine ⟨⟨j + 1, by omega, by go_num, v3, by rw [Hst.out]; exact hE3, hO3⟩, by simp [intOf]; omega⟩
      ·
        have Hbv : Hid (byv L ++ [.int .u8 1] = byv (L ++ [1])) := by refine Lib.hid ?_; simp [byv]
        go_wp2_with (at_builtin; refine wpl_app rfl rfl ei_byte base rfl (hE1.own.alloc _) [.int .u8 1] rfl rfl (Blk.new wr _ _) rfl hn1 hn2 (by simpa using hn3) ?_; intro v' w1 ho1 hk1; rw [Hbv.out] at ho1; obtain ⟨ao', cap', rfl, _, _, _, _⟩ := Sl.of_own ho1; have hb1 : Blk w1 b #[v1] 25 := Blk.keep (hE1.blk.alloc _) hk1 hap2; have hc1 := hb1.cell 0; have hf1 := hb1.frozen 0; simp only [List.getElem?_toArray, List.getElem?_cons_zero] at hc1)
        have hmore := EncTo.more' hE1 _ _ hk1 (l' := L ++ [1]) (by simpa using ho1)
        obtain ⟨v3, hE3, hO3⟩ := EncTo.trans hO1 hmore
        refine ⟨⟨j + 1, by omega, by go_num, v3, by rw [Hst.out]; exact hE3, hO3⟩, by simp [intOf]; omega⟩
    · obtain rfl : j = len := by omega
      have ht : ls.take j = ls := List.take_of_length_le (by have := Hlen.out; omega)
      rw [ht] at hE1
      clear ht
      go_wp2_with fail
      go_ret
      exact ⟨rfl, v1, hE1, hO1⟩
end Go.Proofs.Ythegfbfggbpahaa
