/- The law package's 'awake' of wire. -/
import Derived.Test.YthegfbfggbpahaaWire3
set_option linter.unusedSimpArgs false
set_option linter.unusedVariables false
namespace Go.Proofs.Ythegfbfggbpahaa
open Go.RowKit
set_option maxHeartbeats 1000000

theorem sl_lit1 {w : World} {cs : List Value} {T : TypeId} (n : Nat) (h : cs.length = n) (hn : n ≤ 1000) : Sl (w.alloc (.cells cs.toArray T)) (.slice (some ⟨w.heap.size, 0, none⟩) n n) n 1 cs :=
  Sl.lit (Blk.new _ _ _) (by unfold maxLen; omega) (by omega)
theorem only_below {w0 w w' : World} {b : Nat} (h : Below w0.heap.size w0 w) (k : Only (encS w w0.heap.size b) w w') (hb : w0.heap.size ≤ b) : Below w0.heap.size w0 w' :=
  h.trans (k.below h.size (fun x hx e => by
    rcases e with e | ⟨e, _⟩ <;> omega))

theorem num_small (n : Nat) (h : n < 128) : Wire.num n = [UInt8.ofNat n] := by
  unfold Wire.num
  rw [Wire.grp, if_pos h]
  show [UInt8.ofNat (n % 128)] = _
  rw [Nat.mod_eq_of_lt h]
theorem num_300 : Wire.num 300 = [130, 44] := by
  unfold Wire.num
  rw [Wire.grp, if_neg (by omega), Wire.grp, if_pos (by omega)]
  rfl
theorem aw1 : ([] : List UInt8) ++ [5, 300].flatMap Wire.num = [5, 130, 44] := by simp [num_small 5 (by omega), num_300]
theorem aw2 : [5, 130, 44] ++ Wire.texts [⟨#[97, 98]⟩] = [5, 130, 44, 2, 97, 98] := by
  have : Wire.num (ByteArray.size ⟨#[97, 98]⟩) = [2] := num_small 2 (by omega)
  simp [Wire.texts, Wire.text, this]
theorem aw3 : [5, 130, 44, 2, 97, 98] ++ Wire.num [(1 : Int), 2].length ++ Wire.nums [1, 2] = [5, 130, 44, 2, 97, 98, 2, 1, 2] := by
  simp [Wire.nums, num_small 2 (by omega), num_small 1 (by omega)]

theorem dec_From (s : ByteArray) (w : World) : Calls Try.prog 14 #[.string s] w (fun e w' => e = .returned (.pointer (some ⟨w.heap.size, 0, none⟩)) ∧ w' = w.alloc (.cells #[.string s, .int .i64 (0)] 55)) := by
  (go_enter Try.func14, Try.ntmps14)
  go_wp2_with fail
  go_ret
  exact ⟨rfl, rfl⟩
theorem dec_Err (x : Value) (k : Int) (b : Nat) (w : World) (h : Blk w b #[x, .int .i64 (k)] 55) : Calls Try.prog 16 #[.pointer (some ⟨b, 0, none⟩)] w (Same (.int .i64 (k)) w) := by
  have hc1 := h.cell 1
  simp only [List.getElem?_toArray, List.getElem?_cons_zero, List.getElem?_cons_succ] at hc1
  (go_enter Try.func16, Try.ntmps16)
  go_wp2_with fail
  go_ret
  exact ⟨rfl, rfl⟩
theorem awake_any (W : World) : Calls Try.prog 9 #[] W (fun e w' => e = .returned (.bool true) ∧ Below W.heap.size W w') := by
  have hE0 : EncV (W.alloc (.cells #[.slice none 0 0] 25)) W.heap.size W.heap.size (.slice none 0 0) [] := ⟨Blk.new _ _ _, World.ownsRow_nil _ _ _ _, by simp⟩
  have hU := enc_U [5, 300] (by simp) W.heap.size W.heap.size _ [] (by simp) _ _ (hE0.alloc (.cells #[.int .u64 5, .int .u64 300] 22)) (sl_lit1 (cs := u64v [5, 300]) 2 rfl (by omega)) (apart_lit hE0.blk.lt (by decide))
  rw [aw1, show (W.alloc (.cells #[.slice none 0 0] 25)).heap.size = W.heap.size + 1 by simp] at hU
  have HU := Lib.hid hU
  have HE0 := Lib.hid hE0
  clear hU hE0
  (go_enter Try.func9, Try.ntmps9)
  go_wp2_with fail
  refine HU.out.mono ?_; rintro e w1 ⟨rfl, hto1⟩
  obtain ⟨v1, hE1, hO1⟩ := hto1.unalloc
  have hS := enc_S [⟨#[97, 98]⟩] (by simp; decide) W.heap.size W.heap.size _ _ (by decide) _ _ (hE1.alloc (.cells #[.string ⟨#[97, 98]⟩] 9)) (sl_lit1 (cs := strv [⟨#[97, 98]⟩]) 1 rfl (by omega)) (apart_lit hE1.blk.lt (by decide))
  rw [aw2] at hS
  have HS := Lib.hid hS
  clear hS hto1
  go_wp2_with fail
  refine HS.out.mono ?_; rintro e w2 ⟨rfl, hto2⟩
  obtain ⟨v2, hE2, hO2⟩ := hto2.unalloc
  have hL := enc_List [1, 2] (by simp) W.heap.size W.heap.size _ _ (by decide) _ _ (hE2.alloc (.cells #[.int .i64 1, .int .i64 2] 3)) (sl_lit1 (cs := i64v [1, 2]) 2 rfl (by omega)) (apart_lit hE2.blk.lt (by decide)) (by rintro ao n c e h0 a ha; cases e; cases ha; simp)
  rw [aw3] at hL
  have HL := Lib.hid hL
  clear hL hto2
  go_wp2_with fail
  refine HL.out.mono ?_; rintro e w3 ⟨rfl, hto3⟩
  obtain ⟨v3, hE3, hO3⟩ := hto3.unalloc
  go_wp2_with fail
  refine (dec_From _ _).mono ?_; rintro e w4 ⟨rfl, rfl⟩
  have hb4 := Blk.new w3 #[.string ⟨#[128, 5]⟩, .int .i64 (0)] 55
  have hE4 := hE3.alloc (.cells #[.string ⟨#[128, 5]⟩, .int .i64 (0)] 55)
  have hB3 : Below W.heap.size W w3 := by
    have h1 : Below W.heap.size W w1 := only_below ((Below.refl _ _).alloc (Nat.le_refl _) _) hO1 (Nat.le_refl _)
    exact only_below (only_below h1 hO2 (Nat.le_refl _)) hO3 (Nat.le_refl _)
  have hlt3 : W.heap.size ≤ w3.heap.size := hB3.size
  have hne : W.heap.size ≠ w3.heap.size := by have := hE3.blk.lt; omega
  have hU := dec_U_bad [5] (by simp) w3.heap.size _ hb4
  have h5 : Blk (((w3.alloc (.cells #[.string ⟨#[128, 5]⟩, .int .i64 (0)] 55)).setCell ⟨w3.heap.size, 0, none⟩ (.string (bs [5]))).setCell ⟨w3.heap.size, 1, none⟩ (.int .i64 (3))) w3.heap.size #[.string (bs [5]), .int .i64 (3)] 55 := by
    simpa using (hb4.set 0 (.string (bs [5]))).set 1 (.int .i64 (3))
  have k5 : Only (· = w3.heap.size) (w3.alloc (.cells #[.string ⟨#[128, 5]⟩, .int .i64 (0)] 55)) (((w3.alloc (.cells #[.string ⟨#[128, 5]⟩, .int .i64 (0)] 55)).setCell ⟨w3.heap.size, 0, none⟩ (.string (bs [5]))).setCell ⟨w3.heap.size, 1, none⟩ (.int .i64 (3))) :=
    ((Only.refl (· = w3.heap.size) _).setCell ⟨w3.heap.size, 0, none⟩ _ (fun _ => rfl)).setCell ⟨w3.heap.size, 1, none⟩ _ (fun _ => rfl)
  have hE5 : EncV (((w3.alloc (.cells #[.string ⟨#[128, 5]⟩, .int .i64 (0)] 55)).setCell ⟨w3.heap.size, 0, none⟩ (.string (bs [5]))).setCell ⟨w3.heap.size, 1, none⟩ (.int .i64 (3))) W.heap.size W.heap.size v3 [5, 130, 44, 2, 97, 98, 2, 1, 2] :=
    ⟨hE4.blk.keep k5 hne, own_keep hE4.own k5 (fun g hg e => own_ne hE4.own hb4 (by decide) (e ▸ hg)), Nat.le_trans hE4.le k5.size⟩
  have hB5 : Below W.heap.size W (((w3.alloc (.cells #[.string ⟨#[128, 5]⟩, .int .i64 (0)] 55)).setCell ⟨w3.heap.size, 0, none⟩ (.string (bs [5]))).setCell ⟨w3.heap.size, 1, none⟩ (.int .i64 (3))) := below_one (hB3.alloc hlt3 _) k5 hlt3
  have HU2 := Lib.hid hU
  have HH5 := Lib.hid h5
  have HE5 := Lib.hid hE5
  have HB5 := Lib.hid hB5
  clear hU h5 hE5 hB5 k5 hE4 hb4
  go_wp2_with fail
  refine HU2.out.mono ?_; rintro e w5 ⟨rfl, hw5⟩
  rw [← hw5] at HH5 HE5 HB5
  clear hw5
  have hBy := enc_Bytes _ _ _ _ _ HE5.out
  have hEr := dec_Err _ _ _ _ HH5.out
  have HBy := Lib.hid hBy
  have HEr := Lib.hid hEr
  clear hBy hEr
  go_wp2_with fail
  refine HBy.out.mono ?_; rintro e w6 ⟨rfl, rfl⟩
  go_wp2_with fail
  refine HEr.out.mono ?_; rintro e w6 ⟨rfl, rfl⟩
  go_wp2_with fail
  go_ret
  exact ⟨rfl, HB5.out⟩
end Go.Proofs.Ythegfbfggbpahaa
