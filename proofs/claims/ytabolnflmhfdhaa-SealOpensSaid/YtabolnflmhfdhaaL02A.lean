/- The answers that the document fixes ('awake') come as they should; texts laid as frames. -/
import Derived.Test.YtabolnflmhfdhaaArgs
import Derived.Test.YtabolnflmhfdhaaSealS
set_option linter.unusedSimpArgs false
set_option linter.unusedVariables false
namespace Go.Proofs.Ytabolnflmhfdhaa
open Go.RowKit
set_option maxHeartbeats 1000000

theorem awake_any (w : World) : Calls Try.prog 11 #[] w (Done w) := by
  have e1 : ((bs [97]).toList == [97]) = true := by decide +kernel
  (go_enter Try.func11, Try.ntmps11)
  go_wp2_with fail
  refine (seal_frame _ 1 [bs [97]] _ (by exact Sl.lit (Blk.new _ _ _) (by decide) rfl) (by decide) (by decide) (by intro l c h; cases h)).mono ?_; rintro e w1 ⟨rfl, hB1⟩
  have hB : Below w.heap.size w w1 := ((Below.refl _ _).alloc (Nat.le_refl _) _).trans (hB1.mono (by simp))
  clear hB1
  go_wp2_with fail
  refine (seal_open' _ (by decide) _ rfl [97] 9 0 (by decide +kernel) _).mono ?_; rintro e w2 ⟨rfl, hB2⟩
  have hB3 := hB.trans (hB2.mono hB.size)
  clear hB hB2
  go_wp2_with fail
  refine (seal_sum _ 1 [⟨#[49, 50, 51, 52, 53, 54, 55, 56, 57]⟩] _ (by exact Sl.lit (Blk.new _ _ _) (by decide) rfl) (by decide)).mono ?_; rintro e w3 ⟨rfl, rfl⟩
  rw [show Seal.sumL (cat [⟨#[49, 50, 51, 52, 53, 54, 55, 56, 57]⟩]) = 3421780262 by decide +kernel]
  go_wp2_with fail
  refine (seal_sum _ 3 [⟨#[49, 50, 51, 52]⟩, ⟨#[]⟩, ⟨#[53, 54, 55, 56, 57]⟩] _ (by exact Sl.lit (Blk.new' (by simp)) (by decide) rfl) (by decide)).mono ?_; rintro e w3 ⟨rfl, rfl⟩
  rw [show Seal.sumL (cat [⟨#[49, 50, 51, 52]⟩, ⟨#[]⟩, ⟨#[53, 54, 55, 56, 57]⟩]) = 3421780262 by decide +kernel]
  go_wp2_with fail
  go_ret
  have hs3 := hB3.size
  exact ⟨rfl, (by repeat' (first | exact Below.refl _ _ | assumption | refine Below.setCell ?_ (by first | omega | (simp; done) | (simp; omega)) _ | refine Below.alloc ?_ (by first | omega | (simp; done) | (simp; omega)) _ | refine below_drew ?_ _ | apply Below.drew))⟩
end Go.Proofs.Ytabolnflmhfdhaa
