/- The answers that the document fixes ('awake') come as they should: no condition. -/
import Derived.Test.YtjphgomidbldiaaMeter
namespace Go.Proofs.Ytjphgomidbldiaa
open Go.RowKit

set_option maxHeartbeats 1000000 in
theorem awake_any (w : World) : Calls Try.prog 9 #[] w (Done w) := by
  (go_enter Try.func9, Try.ntmps9)
  go_wp2_with fail; refine (meter_made 10 10 (by decide) _).mono ?_; rintro e w' ⟨rfl, rfl⟩
  go_wp2_with fail
  have hb0 := Blk.new (w.alloc (.cells #[.int .i64 (10), .int .i64 (0)] 31)) #[.int .i64 (10), .int .i64 (0), .bool false, .int .i64 (0)] 39
  have hB0 : Below w.heap.size w ((w.alloc (.cells #[.int .i64 (10), .int .i64 (0)] 31)).alloc (.cells #[.int .i64 (10), .int .i64 (0), .bool false, .int .i64 (0)] 39)) := ((Below.refl _ _).alloc (Nat.le_refl _) _).alloc (by simp) _
  have hz : w.heap.size ≤ w.heap.size + 1 := by omega
  simp only [World.size_alloc] at hb0
  go_wp2_with fail; refine (take_blk _ 0 _ _ _ 10 0 7 hb0 rfl rfl (by decide) (by decide) (by decide) 0 7 #[.int .i64 (10), .int .i64 (7), .bool false, .int .i64 (0)] (by decide) rfl).mono ?_; rintro e w1 ⟨rfl, hb1, hk1⟩; have hB1 := below_one hB0 hk1 hz; clear hk1 hb0 hB0
  go_wp2_with fail; refine (take_blk _ 0 _ _ _ 10 7 4 hb1 rfl rfl (by decide) (by decide) (by decide) 7 7 #[.int .i64 (10), .int .i64 (7), .bool false, .int .i64 (0)] (by decide) rfl).mono ?_; rintro e w2 ⟨rfl, hb2, hk2⟩; have hB2 := below_one hB1 hk2 hz; clear hk2 hb1 hB1
  go_wp2_with fail; refine (give_blk _ 0 _ _ _ 7 8 hb2 rfl (by decide) (by decide) 1 7 #[.int .i64 (10), .int .i64 (7), .bool false, .int .i64 (0)] (by decide) rfl).mono ?_; rintro e w3 ⟨rfl, hb3, hk3⟩; have hB3 := below_one hB2 hk3 hz; clear hk3 hb2 hB2
  go_wp2_with fail; refine (fail_blk _ 2 _ _ _ _ 1 hb3 rfl 2 #[.int .i64 (10), .int .i64 (7), .bool false, .int .i64 (2)] (by decide) rfl).mono ?_; rintro e w4 ⟨rfl, hb4, hk4⟩; have hB4 := below_one hB3 hk4 hz; clear hk4 hb3 hB3
  go_wp2_with fail; refine (try_blk _ 2 _ _ _ false 2 hb4 rfl rfl (by decide) 0 1 #[.int .i64 (10), .int .i64 (7), .bool false, .int .i64 (1)] (by decide) rfl).mono ?_; rintro e w5 ⟨rfl, hb5, hk5⟩; have hB5 := below_one hB4 hk5 hz; clear hk5 hb4 hB4
  go_wp2_with fail; refine (try_blk _ 2 _ _ _ false 1 hb5 rfl rfl (by decide) 8 0 #[.int .i64 (10), .int .i64 (7), .bool false, .int .i64 (0)] (by decide) rfl).mono ?_; rintro e w6 ⟨rfl, hb6, hk6⟩; have hB6 := below_one hB5 hk6 hz; clear hk6 hb5 hB5
  go_wp2_with fail; refine (try_blk _ 2 _ _ _ false 0 hb6 rfl rfl (by decide) 0 0 #[.int .i64 (10), .int .i64 (7), .bool false, .int .i64 (0)] (by decide) rfl).mono ?_; rintro e w7 ⟨rfl, hb7, hk7⟩; have hB7 := below_one hB6 hk7 hz; clear hk7 hb6 hB6
  go_wp2_with fail; refine (free_blk _ 0 _ _ _ 10 7 hb7 rfl rfl (by decide) (by decide) (by decide) 3 (by decide)).mono ?_; rintro e w8 ⟨rfl, hb8, hk8⟩; have hB8 := below_one hB7 hk8 hz; clear hk8 hb7 hB7
  go_wp2_with fail
  go_ret
  exact ⟨rfl, hB8⟩
end Go.Proofs.Ytjphgomidbldiaa
