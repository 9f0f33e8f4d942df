/- The answers of the layers that the document fixes ('live'). No condition. -/
import Derived.Test.YtloimgmifalpnaaRoomSeal
import Derived.Test.YtloimgmifalpnaaRoomWire
set_option linter.unusedSimpArgs false
set_option linter.unusedVariables false
namespace Go.Proofs.Ytloimgmifalpnaa
open Go.RowKit
set_option maxHeartbeats 2000000
set_option maxRecDepth 100000

theorem parts_401 (w : World) : Calls Try.prog 14 #[.int .i64 (401)] w (Same (.int .i64 (3)) w) := by
  (go_enter Try.func14, Try.ntmps14)
  go_wp2_with fail
  go_ret
  exact ⟨rfl, rfl⟩
def pw : Nat → Int := fun j => ([1000000, 100000, 10000, 1000, 100, 10, 1, 0] : List Int).getD j 0
def dig : List UInt8 := [48, 48, 48, 48, 48, 48, 49]
theorem name_1 (w : World) : Calls Try.prog 15 #[.int .i64 (1)] w (Fresh (.string ⟨#[115, 101, 103, 45, 48, 48, 48, 48, 48, 48, 49]⟩) w) := by
  (go_enter Try.func15, Try.ntmps15)
  go_wp2_with fail
  go_loopw [3, 4] (fun v i wr => ∃ j : Nat, j ≤ 7 ∧ i = .int .i64 (pw j) ∧ wr.ownsRow w.heap.size 5 1 v j (byv (dig.take j)) ∧ Below w.heap.size w wr) (fun _ i _ => (intOf i).toNat)
  case atStart => exact ⟨0, by omega, rfl, World.ownsRow_nil _ _ _ _, Below.refl _ _⟩
  obtain ⟨j, hj, rfl, hown, hB⟩ := hrel
  have hjs : j = 0 ∨ j = 1 ∨ j = 2 ∨ j = 3 ∨ j = 4 ∨ j = 5 ∨ j = 6 ∨ j = 7 := by omega
  obtain ⟨ao, cap, rfl, _, hcm, _, hcl⟩ := Sl.of_own hown
  rcases hjs with rfl | rfl | rfl | rfl | rfl | rfl | rfl | rfl
  · rw [show pw 0 = 1000000 from rfl]
    go_wp2_with (at_builtin; refine wpl_app rfl rfl ei_byte w.heap.size rfl (hown.alloc _) [.int .u8 (((dig[0]'(by decide)).toNat : Nat) : Int)] rfl rfl (Blk.new _ _ _) rfl (by omega) (by unfold maxLen; omega) (by have := hB.size; simp; omega) ?_; intro v2 w2 ho2 hk2)
    have hB2 := below_many (hB.alloc hB.size (.cells #[.int .u8 (((dig[0]'(by decide)).toNat : Nat) : Int)] 5)) hk2 (own_ge hown)
    exact ⟨⟨0 + 1, by omega, rfl, ho2, hB2⟩, by decide⟩
  · rw [show pw 1 = 100000 from rfl]
    go_wp2_with (at_builtin; refine wpl_app rfl rfl ei_byte w.heap.size rfl (hown.alloc _) [.int .u8 (((dig[1]'(by decide)).toNat : Nat) : Int)] rfl rfl (Blk.new _ _ _) rfl (by omega) (by unfold maxLen; omega) (by have := hB.size; simp; omega) ?_; intro v2 w2 ho2 hk2)
    have hB2 := below_many (hB.alloc hB.size (.cells #[.int .u8 (((dig[1]'(by decide)).toNat : Nat) : Int)] 5)) hk2 (own_ge hown)
    exact ⟨⟨1 + 1, by omega, rfl, ho2, hB2⟩, by decide⟩
  · rw [show pw 2 = 10000 from rfl]
    go_wp2_with (at_builtin; refine wpl_app rfl rfl ei_byte w.heap.size rfl (hown.alloc _) [.int .u8 (((dig[2]'(by decide)).toNat : Nat) : Int)] rfl rfl (Blk.new _ _ _) rfl (by omega) (by unfold maxLen; omega) (by have := hB.size; simp; omega) ?_; intro v2 w2 ho2 hk2)
    have hB2 := below_many (hB.alloc hB.size (.cells #[.int .u8 (((dig[2]'(by decide)).toNat : Nat) : Int)] 5)) hk2 (own_ge hown)
    exact ⟨⟨2 + 1, by omega, rfl, ho2, hB2⟩, by decide⟩
  · rw [show pw 3 = 1000 from rfl]
    go_wp2_with (at_builtin; refine wpl_app rfl rfl ei_byte w.heap.size rfl (hown.alloc _) [.int .u8 (((dig[3]'(by decide)).toNat : Nat) : Int)] rfl rfl (Blk.new _ _ _) rfl (by omega) (by unfold maxLen; omega) (by have := hB.size; simp; omega) ?_; intro v2 w2 ho2 hk2)
    have hB2 := below_many (hB.alloc hB.size (.cells #[.int .u8 (((dig[3]'(by decide)).toNat : Nat) : Int)] 5)) hk2 (own_ge hown)
    exact ⟨⟨3 + 1, by omega, rfl, ho2, hB2⟩, by decide⟩
  · rw [show pw 4 = 100 from rfl]
    go_wp2_with (at_builtin; refine wpl_app rfl rfl ei_byte w.heap.size rfl (hown.alloc _) [.int .u8 (((dig[4]'(by decide)).toNat : Nat) : Int)] rfl rfl (Blk.new _ _ _) rfl (by omega) (by unfold maxLen; omega) (by have := hB.size; simp; omega) ?_; intro v2 w2 ho2 hk2)
    have hB2 := below_many (hB.alloc hB.size (.cells #[.int .u8 (((dig[4]'(by decide)).toNat : Nat) : Int)] 5)) hk2 (own_ge hown)
    exact ⟨⟨4 + 1, by omega, rfl, ho2, hB2⟩, by decide⟩
  · rw [show pw 5 = 10 from rfl]
    go_wp2_with (at_builtin; refine wpl_app rfl rfl ei_byte w.heap.size rfl (hown.alloc _) [.int .u8 (((dig[5]'(by decide)).toNat : Nat) : Int)] rfl rfl (Blk.new _ _ _) rfl (by omega) (by unfold maxLen; omega) (by have := hB.size; simp; omega) ?_; intro v2 w2 ho2 hk2)
    have hB2 := below_many (hB.alloc hB.size (.cells #[.int .u8 (((dig[5]'(by decide)).toNat : Nat) : Int)] 5)) hk2 (own_ge hown)
    exact ⟨⟨5 + 1, by omega, rfl, ho2, hB2⟩, by decide⟩
  · rw [show pw 6 = 1 from rfl]
    go_wp2_with (at_builtin; refine wpl_app rfl rfl ei_byte w.heap.size rfl (hown.alloc _) [.int .u8 (((dig[6]'(by decide)).toNat : Nat) : Int)] rfl rfl (Blk.new _ _ _) rfl (by omega) (by unfold maxLen; omega) (by have := hB.size; simp; omega) ?_; intro v2 w2 ho2 hk2)
    have hB2 := below_many (hB.alloc hB.size (.cells #[.int .u8 (((dig[6]'(by decide)).toNat : Nat) : Int)] 5)) hk2 (own_ge hown)
    exact ⟨⟨6 + 1, by omega, rfl, ho2, hB2⟩, by decide⟩
  · rw [show pw 7 = 0 from rfl]
    obtain ⟨g, rfl, hc⟩ : ∃ g, ao = some ⟨g, 0, none⟩ ∧ ∀ j (hj : j < dig.length), wr.cell? ⟨g, j, none⟩ = some (.int .u8 (dig[j].toNat : Int)) := by
      rcases hown.2 with ⟨e, _⟩ | ⟨g, cap', cur, e, _, _, _⟩
      · cases e
      · have e1 : ao = some ⟨g, 0, none⟩ := by injection e
        refine ⟨g, e1, fun j hj => ?_⟩
        have := World.ownsRow.cells (g := g) hown (by rw [e1]; rfl) j (.int .u8 (dig[j].toNat : Int)) (by
          have h7 : dig.take 7 = dig := rfl
          rw [h7]
          simp [byv, hj])
        rw [Addr.add_lit, Nat.zero_add] at this
        exact this
    clear hcl
    go_wp2_with fail
    rw [conv_str (n := 7) (e := 5) dig Try.underlying44 Try.underlying5 Try.underlying9 rfl hc]
    go_wp2_with fail
    go_ret
    exact ⟨rfl, hB⟩
theorem live_any (W : World) : Calls Try.prog 4 #[] W (Fresh (.bool true) W) := by
  have hE0 : EncV (W.alloc (.cells #[.slice none 0 0] 46)) W.heap.size W.heap.size (.slice none 0 0) [] := ⟨Blk.new _ _ _, World.ownsRow_nil _ _ _ _, by simp⟩
  have hU := enc_U [300] (by simp) W.heap.size W.heap.size _ [] (by simp) _ _ (hE0.alloc (.cells #[.int .u64 300] 49)) (sl_lit1 (cs := u64v [300]) 1 rfl (by omega)) (apart_lit hE0.blk.lt (by decide))
  rw [show ([] : List UInt8) ++ [300].flatMap Wire.num = [130, 44] by simp [num_300], show (W.alloc (.cells #[.slice none 0 0] 46)).heap.size = W.heap.size + 1 by simp] at hU
  have HU := Lib.hid hU
  have HE0 := Lib.hid hE0
  clear hU hE0
  (go_enter Try.func4, Try.ntmps4)
  go_wp2_with fail
  refine HU.out.mono ?_; rintro e w1 ⟨rfl, hto1⟩
  obtain ⟨v1, hE1, hO1⟩ := hto1.unalloc
  have hB1 : Below W.heap.size W w1 := only_below ((Below.refl _ _).alloc (Nat.le_refl _) _) hO1 (Nat.le_refl _)
  have HBy := Lib.hid (enc_Bytes _ _ _ _ _ hE1)
  clear hto1
  go_wp2_with fail
  refine HBy.out.mono ?_; rintro e w6 ⟨rfl, rfl⟩
  go_wp2_with fail
  refine (seal_sum _ 1 [⟨#[49, 50, 51, 52, 53, 54, 55, 56, 57]⟩] _ (by exact Sl.lit (Blk.new _ _ _) (by decide) rfl) (by decide)).mono ?_; rintro e w3 ⟨rfl, rfl⟩
  rw [show Seal.sumL (cat [⟨#[49, 50, 51, 52, 53, 54, 55, 56, 57]⟩]) = 3421780262 by decide +kernel]
  go_wp2_with fail
  refine (parts_401 _).mono ?_; rintro e w3 ⟨rfl, rfl⟩
  go_wp2_with fail
  refine (name_1 _).mono ?_; rintro e w4 ⟨rfl, hb⟩
  go_wp2_with fail
  go_ret
  have hB2 := hB1.alloc hB1.size (.cells #[.string ⟨#[49, 50, 51, 52, 53, 54, 55, 56, 57]⟩] 9)
  exact ⟨rfl, hB2.trans (hb.mono hB2.size)⟩
end Go.Proofs.Ytloimgmifalpnaa
