/- The document's Sum, Four, number and Frame. No condition. -/
import Derived.Test.YtabolnflmhfdhaaSealPure5
import Derived.Test.YtabolnflmhfdhaaSealS
import Derived.Test.YtabolnflmhfdhaaRegionInv
set_option linter.unusedSimpArgs false
set_option linter.unusedVariables false
namespace Go.Proofs.Ytabolnflmhfdhaa
open Go.RowKit
set_option maxHeartbeats 4000000
set_option maxRecDepth 100000

/-- a block of bytes -/
def Bts (w : World) (g : Nat) (l : List UInt8) : Prop :=
  ∃ cs T lo hi, w.heap[g]? = some (.cells cs T (lo, hi)) ∧ l.length ≤ lo ∧ ∀ j (h : j < l.length), cs[j]? = some (.int .u8 (l[j].toNat : Int))
theorem Bts.cell {w : World} {g : Nat} {l : List UInt8} (h : Bts w g l) (j : Nat) (hj : j < l.length) : w.cell? ⟨g, j, none⟩ = some (.int .u8 (l[j].toNat : Int)) := by
  obtain ⟨cs, T, lo, hi, h1, _, h3⟩ := h
  simp [World.cell?, h1, h3 j hj]
theorem Bts.new (w : World) (s : ByteArray) (cap : Nat) (T : TypeId) (lo hi : Nat) (h : lo = (bytesRow s cap).size) : Bts (w.alloc (.cells (bytesRow s cap) T (lo, hi))) w.heap.size s.data.toList := by
  refine ⟨bytesRow s cap, T, lo, hi, by unfold World.alloc; simp, ?_, ?_⟩
  · rw [h]; simp [bytesRow]
  · intro j hj
    have hj' : j < s.data.size := by simpa using hj
    have h2 : j < s.size := hj'
    simp [bytesRow, Array.getElem?_append, h2, hj']


theorem bit_one (p : Nat × Nat) (h : (p.1 % 2 + p.2 % 2) % 2 = 1) : Seal.bit p = (p.1 / 2 ^^^ 3988292384, p.2 / 2) := by unfold Seal.bit; rw [if_pos h]
theorem bit_zero (p : Nat × Nat) (h : ¬ (p.1 % 2 + p.2 % 2) % 2 = 1) : Seal.bit p = (p.1 / 2, p.2 / 2) := by unfold Seal.bit; rw [if_neg h, Nat.xor_zero]
theorem ref_sum (s : ByteArray) (hs : s.size ≤ 1000000) (w : World) : Calls Try.prog 20 #[.string s] w (Fresh (.int .u32 ((Seal.sumL s.data.toList : Nat) : Int)) w) := by
  have kb := fun (w : World) => run_bytes_of_string (P := Try.prog) w 9 26 5 s Try.underlying9 Try.underlying26 Try.underlying5
  (go_enter Try.func20, Try.ntmps20)
  go_wp2_with fail
  have hbt := Bts.new w s (grownCap w s.size 0 5) 5 (bytesRow s (grownCap w s.size 0 5)).size ((bytesRow s (grownCap w s.size 0 5)).size + 1) rfl
  have hl : s.data.toList.length = s.size := by simp
  have Hl := Lib.hid hl
  have hbe : Below w.heap.size w (w.alloc (.cells (bytesRow s (grownCap w s.size 0 5)) 5 ((bytesRow s (grownCap w s.size 0 5)).size, (bytesRow s (grownCap w s.size 0 5)).size + 1))) := Below.alloc (Below.refl _ _) (Nat.le_refl _) _
  have Hbe := Lib.hid hbe
  obtain ⟨l, hll⟩ : ∃ l, l = s.data.toList := ⟨_, rfl⟩
  rw [← hll] at Hl hbt
  have Hll := Lib.hid hll
  clear hl kb hbe hll
  go_loop [3, 11] (fun c i => ∃ k : Nat, k ≤ s.size ∧ i = .int .i64 (k) ∧ c = .int .u32 ((Seal.crcL 4294967295 (l.take k) : Nat) : Int)) (fun _ i => s.size - (intOf i).toNat)
  case atStart => exact ⟨0, Nat.zero_le _, rfl, rfl⟩
  obtain ⟨k, hk, rfl, rfl⟩ := hrel
  have hcl := Seal.crcL_lt (l.take k) (c := 4294967295) (by decide)
  by_cases d : k < s.size
  · have hkl : k < l.length := by rw [Hl.out]; exact d
    have c1 := hbt.cell k hkl
    have hst : Hid (Seal.crcL 4294967295 (l.take (k + 1)) = (Seal.bitsN 8 (Seal.crcL 4294967295 (l.take k), l[k].toNat)).1) := Lib.hid (by rw [take_snoc' l k hkl, Seal.crcL_snoc, Seal.bits_byte])
    have hb8 := l[k].toNat_lt
    generalize l[k].toNat = B at *
    generalize Seal.crcL 4294967295 (l.take k) = C at *
    clear hbt
    go_wp2_with fail
    go_loop [3, 5, 6] (fun c b i => ∃ (j : Nat) (p : Nat × Nat), j ≤ 8 ∧ i = .int .i64 (j) ∧ Hid (p = Seal.bitsN j (C, B)) ∧ c = .int .u32 ((p.1 : Nat) : Int) ∧ b = .int .u8 ((p.2 : Nat) : Int) ∧ p.1 < 4294967296 ∧ p.2 < 256) (fun _ _ i => 8 - (intOf i).toNat)
    case atStart => exact ⟨0, (C, B), by omega, rfl, Lib.hid rfl, rfl, rfl, hcl, hb8⟩
    clear c1
    obtain ⟨j, p, hj, rfl, hp, rfl, rfl, hp1, hp2⟩ := hrel
    by_cases dj : j < 8
    · have hs8 : Hid (Seal.bitsN (j + 1) (C, B) = Seal.bit p) := Lib.hid (by rw [hp.out]; rfl)
      have hb1 := bit_one p
      have hb0 := bit_zero p
      obtain ⟨x, y⟩ := p
      simp only at hp1 hp2 hb1 hb0
      have Hb1 := Lib.hid hb1
      have Hb0 := Lib.hid hb0
      clear hb1 hb0
      have hx := u32_xor_nat (x / 2) 3988292384 (by omega) (by omega)
      rw [show ((x / 2 : Nat) : Int) = (x : Int) / 2 by rfl, show ((3988292384 : Nat) : Int) = 3988292384 from rfl] at hx
      have hxl : x / 2 ^^^ 3988292384 < 4294967296 := Seal.xor_lt 32 (by omega) (by omega)
      rcases Nat.mod_two_eq_zero_or_one x with m1 | m1 <;> rcases Nat.mod_two_eq_zero_or_one y with m2 | m2
      all_goals
        have e1 : (x : Int) % 2 = ((x % 2 : Nat) : Int) := by omega
        have e2 : (y : Int) % 2 = ((y % 2 : Nat) : Int) := by omega
        rw [m1] at e1
        rw [m2] at e2
      · go_wp2_with fail
        exact ⟨⟨j + 1, (x / 2, y / 2), by omega, by go_num, Lib.hid (by rw [hs8.out, Hb0.out (by omega)]), by first | rfl | simp, by first | rfl | simp, by simp only; omega, by simp only; omega⟩, by simp [intOf]; omega⟩
      · go_wp2_with fail
        exact ⟨⟨j + 1, (x / 2 ^^^ 3988292384, y / 2), by omega, by go_num, Lib.hid (by rw [hs8.out, Hb1.out (by omega)]), by first | rfl | simp, by first | rfl | simp, hxl, by simp only; omega⟩, by simp [intOf]; omega⟩
      · go_wp2_with fail
        exact ⟨⟨j + 1, (x / 2 ^^^ 3988292384, y / 2), by omega, by go_num, Lib.hid (by rw [hs8.out, Hb1.out (by omega)]), by first | rfl | simp, by first | rfl | simp, hxl, by simp only; omega⟩, by simp [intOf]; omega⟩
      · go_wp2_with fail
        exact ⟨⟨j + 1, (x / 2, y / 2), by omega, by go_num, Lib.hid (by rw [hs8.out, Hb0.out (by omega)]), by first | rfl | simp, by first | rfl | simp, by simp only; omega, by simp only; omega⟩, by simp [intOf]; omega⟩
    · obtain rfl : j = 8 := by omega
      have hs9 : Hid (Seal.crcL 4294967295 (l.take (k + 1)) = p.1) := Lib.hid (by rw [hst.out, hp.out])
      go_wp2_with fail
      exact ⟨⟨k + 1, by omega, by go_num, by rw [hs9.out]⟩, by simp [intOf]; omega⟩
  · obtain rfl : k = s.size := by omega
    have hf : Hid (Seal.sumL l = 4294967295 - Seal.crcL 4294967295 (l.take s.size)) := Lib.hid (by rw [List.take_of_length_le (by rw [Hl.out]; omega)]; rfl)
    generalize Seal.crcL 4294967295 (l.take s.size) = C at *
    go_wp2_with fail
    go_ret
    refine ⟨?_, below_drew Hbe.out 1⟩
    rw [← Hll.out, hf.out]
    show Ending.returned (Value.int .u32 (4294967295 - (C : Int))) = _
    congr 2
    omega
theorem ref_four (v : Nat) (hc : v < 4294967296) (w : World) : Calls Try.prog 26 #[.int .u32 v] w (Fresh (.string (bs (Seal.four v))) w) := by
  (go_enter Try.func26, Try.ntmps26)
  go_wp2_with fail
  go_loopw [0, 3, 4] (fun x s i wr => ∃ j : Nat, j ≤ 4 ∧ i = .int .i64 (j) ∧ x = .int .u32 ((v / 256 ^ j : Nat) : Int) ∧ s = .string (bs ((Seal.four v).drop (4 - j))) ∧ Below w.heap.size w wr) (fun _ _ i _ => 4 - (intOf i).toNat)
  case atStart => exact ⟨0, by omega, rfl, by simp, rfl, Below.refl _ _⟩
  obtain ⟨j, hj, rfl, rfl, rfl, hB⟩ := hrel
  by_cases d : j < 4
  · have i1 : (j : Int) < 4 := by omega
    have hst : Hid (bs [UInt8.ofNat (v / 256 ^ j)] ++ bs ((Seal.four v).drop (4 - j)) = bs ((Seal.four v).drop (4 - (j + 1)))) := Lib.hid (by
      rw [bs_append]
      congr 1
      match j, d with
      | 0, _ => simp [Seal.four]
      | 1, _ => simp [Seal.four]
      | 2, _ => simp [Seal.four]
      | 3, _ => simp [Seal.four])
    have hdv : Hid (((v / 256 ^ (j + 1) : Nat) : Int) = ((v / 256 ^ j : Nat) : Int) / 256) := Lib.hid (by rw [Nat.pow_succ, ← Nat.div_div_eq_div_mul]; rfl)
    have hlt : v / 256 ^ j < 4294967296 := Nat.lt_of_le_of_lt (Nat.div_le_self _ _) hc
    generalize v / 256 ^ j = x at *
    have hts : (bs [UInt8.ofNat x]).size + (bs ((Seal.four v).drop (4 - j))).size ≤ 9223372036854775807 := by rw [bs_size, bs_size, List.length_drop, Seal.four_length]; simp only [List.length_singleton]; omega
    generalize bs ((Seal.four v).drop (4 - j)) = t at *
    go_wp2_with fail
    rw [conv_one Try.underlying26 Try.underlying5 Try.underlying9 (UInt8.ofNat x) _ _ (by rw [Blk.cell (Blk.new _ _ _)]; simp)]
    go_wp2_with fail
    exact ⟨⟨j + 1, by omega, by go_num, by rw [hdv.out], by rw [hst.out], hB.alloc hB.size _⟩, by simp [intOf]; omega⟩
  · obtain rfl : j = 4 := by omega
    go_wp2_with fail
    go_ret
    exact ⟨rfl, hB⟩
theorem fold_four (l : List UInt8) (h : l.length = 4) : l.foldl (fun a b => 256 * a + b.toNat) 0 = Seal.numb l := by
  match l, h with
  | [a, b, c, e], _ =>
    show 256 * (256 * (256 * (256 * 0 + a.toNat) + b.toNat) + c.toNat) + e.toNat = a.toNat * 16777216 + b.toNat * 65536 + c.toNat * 256 + e.toNat
    omega
theorem wrap64_id (n : Int) (h : -9223372036854775808 ≤ n ∧ n ≤ 9223372036854775807) : wrap64 n = n := by unfold wrap64; omega
theorem ref_number (s : ByteArray) (hs : s.size = 4) (w : World) : Calls Try.prog 25 #[.string s] w (Fresh (.int .i64 (((Seal.numb s.data.toList : Nat) : Int))) w) := by
  have hv : ∀ k, k < 4 → ∃ b : UInt8, s.data.toList.getD k 0 = b := fun k _ => ⟨_, rfl⟩
  (go_enter Try.func25, Try.ntmps25)
  go_wp2_with fail
  go_loop [3, 4] (fun n i => ∃ k m : Nat, k ≤ 4 ∧ i = .int .i64 (k) ∧ n = .int .i64 ((m : Nat)) ∧ m < 256 ^ k ∧ Hid (m = (s.data.toList.take k).foldl (fun a b => 256 * a + b.toNat) 0)) (fun _ i => 4 - (intOf i).toNat)
  case atStart => exact ⟨0, 0, by omega, rfl, rfl, by omega, Lib.hid rfl⟩
  obtain ⟨k, m, hk, rfl, rfl, hm, hM⟩ := hrel
  by_cases d : k < 4
  · have hks : k < s.size := by omega
    have hb8 := s[k].toNat_lt
    have hkl : k < s.data.toList.length := by simpa using hks
    have hst : Hid (256 * m + s[k].toNat = (s.data.toList.take (k + 1)).foldl (fun a b => 256 * a + b.toNat) 0) := Lib.hid (by
      rw [take_snoc' _ k hkl, List.foldl_append, ← hM.out]
      rfl)
    have hm2 : m < 16777216 := Nat.lt_of_lt_of_le hm (Nat.pow_le_pow_right (by omega) (by omega : k ≤ 3))
    have hpw : Hid (256 * m + s[k].toNat < 256 ^ (k + 1)) := Lib.hid (by rw [Nat.pow_succ]; omega)
    go_wp2_with fail
    refine ⟨⟨k + 1, 256 * m + s[k].toNat, by omega, by go_num, ?_, hpw.out, hst⟩, by simp [intOf]; omega⟩
    congr 1
  · obtain rfl : k = 4 := by omega
    have hf : Hid (m = Seal.numb s.data.toList) := Lib.hid (by
      rw [hM.out, List.take_of_length_le (by simp; omega)]
      exact fold_four _ (by simp; omega))
    go_wp2_with fail
    go_ret
    refine ⟨?_, Below.refl _ _⟩
    rw [← hf.out]
    rfl
end Go.Proofs.Ytabolnflmhfdhaa
