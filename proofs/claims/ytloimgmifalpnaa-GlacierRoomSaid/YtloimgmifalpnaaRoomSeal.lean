/- What the calls of seal answer. -/
import Derived.Test.YtloimgmifalpnaaRows
import Derived.Test.YtloimgmifalpnaaBase
import Derived.Test.YtloimgmifalpnaaSealPure
set_option linter.unusedSimpArgs false
set_option linter.unusedVariables false
namespace Go.Proofs.Ytloimgmifalpnaa
open Go.RowKit
set_option maxHeartbeats 400000

theorem crc_bits (x : Nat) (h : x < 4294967296) : bits .xor .u32 ((x : Int) / 2) (bits .and .u32 3988292384 (-bits .and .u32 (x : Int) 1 % 4294967296)) = ((Seal.crc1 x : Nat) : Int) := by
  have e1 : bits .and .u32 (x : Int) 1 = ((x % 2 : Nat) : Int) := by
    have := u32_and_nat x 1 h (by omega)
    rw [nat_mask1] at this
    exact this
  have e2 : ((x : Int) / 2) = ((x / 2 : Nat) : Int) := by omega
  rw [e1, e2]
  unfold Seal.crc1
  rcases Nat.mod_two_eq_zero_or_one x with e | e
  · rw [e, if_neg (by decide)]
    have e3 : bits .and .u32 3988292384 (-((0 : Nat) : Int) % 4294967296) = ((0 : Nat) : Int) := u32_and_nat 3988292384 0 (by omega) (by omega)
    rw [e3, u32_xor_nat _ _ (by omega) (by omega)]
  · rw [e, if_pos rfl]
    have e3 : bits .and .u32 3988292384 (-((1 : Nat) : Int) % 4294967296) = ((3988292384 : Nat) : Int) := u32_and_nat 3988292384 4294967295 (by omega) (by omega)
    rw [e3, u32_xor_nat _ _ (by omega) (by omega)]
theorem not_bits (c : Nat) (h : c < 4294967296) : bits .xor .u32 IntKind.u32.max (c : Int) = ((4294967295 - c : Nat) : Int) := by
  have e : 4294967295 ^^^ c = 4294967295 - c := by
    apply Nat.eq_of_testBit_eq
    intro i
    rw [Nat.testBit_xor, show 4294967295 - c = 2 ^ 32 - (c + 1) by omega, Nat.testBit_two_pow_sub_succ (by omega), show 4294967295 = 2 ^ 32 - 1 by rfl, Nat.testBit_two_pow_sub_one]
    by_cases hi : i < 32
    · simp [hi]
    · have : c.testBit i = false := Nat.testBit_lt_two_pow (Nat.lt_of_lt_of_le h (by
        calc 4294967296 = 2 ^ 32 := by rfl
          _ ≤ 2 ^ i := Nat.pow_le_pow_right (by omega) (by omega)))
      simp [hi, this]
  have := u32_xor_nat 4294967295 c (by omega) h
  rw [e] at this
  exact this
def iter8 : Nat → Nat → Nat | 0, x => x | k + 1, x => iter8 k (Seal.crc1 x)

theorem seal_step (c : Nat) (b : UInt8) (hc : c < 4294967296) (w : World) :
    Calls Try.prog 21 #[.int .u32 c, .int .u8 b.toNat] w (Same (.int .u32 (Seal.crcB c b)) w) := by
  have hb : b.toNat < 256 := b.toNat_lt
  have hx : bits .xor .u32 (c : Int) (b.toNat : Int) = ((c ^^^ b.toNat : Nat) : Int) := u32_xor_nat _ _ hc (by omega)
  (go_enter Try.func21, Try.ntmps21)
  go_wp2_with fail
  go_loop [0, 9] (fun v i => ∃ k x : Nat, k ≤ 8 ∧ i = .int .i64 (k) ∧ v = .int .u32 x ∧ x < 4294967296 ∧ Hid (iter8 (8 - k) x = Seal.crcB c b)) (fun _ i => 8 - (intOf i).toNat)
  case atStart => exact ⟨0, c ^^^ b.toNat, by omega, rfl, rfl, Seal.xor_lt 32 hc (by omega), rfl⟩
  case round =>
    obtain ⟨k, x, hk, rfl, rfl, hx2, hit⟩ := hrel
    by_cases hlt : k < 8
    · go_wp2_with fail
      exact ⟨⟨k + 1, Seal.crc1 x, by omega, by go_num, by rw [crc_bits x hx2], Seal.crc1_lt hx2, by have h := hit.out; rw [show 8 - k = (8 - (k + 1)) + 1 by omega] at h; exact h⟩, by simp [intOf]; omega⟩
    · obtain rfl : k = 8 := by omega
      go_wp2_with fail
      go_ret
      exact ⟨congrArg (fun n : Nat => Ending.returned (Value.int .u32 (n : Int))) hit.out, rfl⟩
/-- texts, one behind the other -/
def cat (xs : List ByteArray) : List UInt8 := xs.flatMap (·.data.toList)
theorem cat_mem {xs : List ByteArray} {x : ByteArray} (h : x ∈ xs) : x.size ≤ (cat xs).length := by
  induction xs with
  | nil => cases h
  | cons y ys ih =>
    have e : (cat (y :: ys)).length = y.size + (cat ys).length := by simp [cat]
    rcases List.mem_cons.1 h with rfl | h
    · omega
    · have := ih h
      omega
theorem cat_take (xs : List ByteArray) (k : Nat) (h : k < xs.length) : cat (xs.take (k + 1)) = cat (xs.take k) ++ xs[k].data.toList := by
  rw [take_snoc' xs k h]
  unfold cat
  rw [List.flatMap_append]
  simp

theorem seal_sum (v : Value) (n : Nat) (xs : List ByteArray) (w : World) (h : Sl w v n 1 (xs.map .string)) (hs : ∀ x ∈ xs, x.size ≤ maxLen) :
    Calls Try.prog 13 #[v] w (Same (.int .u32 (Seal.sumL (cat xs))) w) := by
  obtain ⟨ao, cap, rfl, h1, h2, hn, h3⟩ := h
  obtain rfl : n = xs.length := by simpa using hn.symm
  clear hn
  have h4 : xs.length ≤ 9223372036854775807 := by unfold maxLen at h2; omega
  generalize hlen : xs.length = len at *
  have Hlen := Lib.hid hlen
  clear hlen h2
  (go_enter Try.func13, Try.ntmps13)
  go_wp2_with fail
  go_loop [3, 9] (fun c i => ∃ k : Nat, k ≤ len ∧ i = .int .i64 (k) ∧ c = .int .u32 (Seal.crcL 4294967295 (cat (xs.take k)))) (fun _ i => len - (intOf i).toNat)
  case atStart => exact ⟨0, Nat.zero_le _, rfl, rfl⟩
  case round =>
    obtain ⟨k, hk, rfl, rfl⟩ := hrel
    by_cases hlt : k < len
    · obtain ⟨b, off, rfl, hbW, hcell⟩ := h3 (by omega)
      have hkx : k < xs.length := by have := Hlen.out; omega
      have hc := hcell k (.string xs[k]) (by simp [hkx])
      have hsz := hs _ (List.getElem_mem hkx)
      have hcat := Lib.hid (cat_take xs k hkx)
      have hc0 := Seal.crcL_lt (cat (xs.take k)) (c := 4294967295) (by decide)
      obtain ⟨c0, hc1⟩ : ∃ c0, c0 = Seal.crcL 4294967295 (cat (xs.take k)) := ⟨_, rfl⟩
      rw [← hc1] at hc0 ⊢
      have Hc1 := Lib.hid hc1
      clear hc1
      generalize xs[k] = s at *
      clear hcell h3 hs
      have hs2 : s.size ≤ 9223372036854775807 := by unfold maxLen at hsz; omega
      go_wp2_with fail
      go_loop [3, 15] (fun c i => ∃ j : Nat, j ≤ s.size ∧ i = .int .i64 (j) ∧ c = .int .u32 (Seal.crcL c0 (s.data.toList.take j))) (fun _ i => s.size - (intOf i).toNat)
      case atStart => exact ⟨0, Nat.zero_le _, rfl, rfl⟩
      case round =>
        obtain ⟨j, hj, rfl, rfl⟩ := hrel
        by_cases hlj : j < s.size
        · have hc2 := Seal.crcL_lt (s.data.toList.take j) hc0
          have ht : Hid (Seal.crcL c0 (s.data.toList.take (j + 1)) = Seal.crcB (Seal.crcL c0 (s.data.toList.take j)) s[j]) := by
            rw [take_snoc' _ j (by simpa using hlj), Seal.crcL_snoc]
            rfl
          generalize Seal.crcL c0 (s.data.toList.take j) = c1 at *
          go_wp2_with fail
          refine (seal_step c1 s[j] hc2 _).mono ?_; rintro e w' ⟨rfl, rfl⟩
          go_wp2_with fail
          exact ⟨⟨j + 1, by omega, by go_num, by rw [ht.out]⟩, by simp [intOf]; omega⟩
        · obtain rfl : j = s.size := by omega
          have ht : Hid (Seal.crcL c0 (s.data.toList.take s.size) = Seal.crcL 4294967295 (cat (xs.take (k + 1)))) := by
            rw [hcat.out, Seal.crcL_append, ← Hc1.out, List.take_of_length_le (by simp)]; rfl
          generalize Seal.crcL c0 (s.data.toList.take s.size) = c1 at *
          go_wp2_with fail
          exact ⟨⟨k + 1, by omega, by go_num, by rw [ht.out]⟩, by simp [intOf]; omega⟩
    · obtain rfl : k = len := by omega
      have ht : xs.take k = xs := by rw [← Hlen.out]; exact List.take_length
      have hc0 := Seal.crcL_lt (cat xs) (c := 4294967295) (by decide)
      have hq : Hid (Seal.sumL (cat xs) = 4294967295 - Seal.crcL 4294967295 (cat xs)) := rfl
      rw [ht]
      generalize Seal.crcL 4294967295 (cat xs) = c0 at *
      clear ht hs h3
      go_wp2_with fail
      go_ret
      refine ⟨?_, rfl⟩
      show Ending.returned (Value.int .u32 (bits BinOp.xor .u32 IntKind.u32.max (c0 : Int))) = _
      rw [not_bits c0 hc0, hq.out]
end Go.Proofs.Ytloimgmifalpnaa
