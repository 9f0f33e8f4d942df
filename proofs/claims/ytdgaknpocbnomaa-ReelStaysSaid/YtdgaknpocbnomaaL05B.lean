/- What Seek, and a write elsewhere than at the end, do to a plain volume. No condition. -/
import Derived.Test.YtdgaknpocbnomaaL05A
set_option linter.unusedSimpArgs false
set_option linter.unusedVariables false
namespace Go.Proofs.Ytdgaknpocbnomaa
open Go.RowKit

/-- a plain volume that stands ahead of block p -/
def Vol.stand (R U : Int) (L : List Bk) (sf : Nat) (er : Int) (p : Nat) : Vol := ⟨R, U, false, 0, ⟨#[]⟩, L, sf, p, false, er⟩
theorem at_stand (R U : Int) (L : List Bk) (sf : Nat) (er : Int) : Vol.at R U L sf er = Vol.stand R U L sf er L.length := rfl
theorem stand_at {R U : Int} {L : List Bk} {sf : Nat} {er : Int} {p : Nat} (h : p = L.length) : Vol.stand R U L sf er p = Vol.at R U L sf er := by subst h; rfl
theorem seek_bad (R U : Int) (L : List Bk) (sf : Nat) (er : Int) (p : Nat) (n : Int) (h : n < 0 ∨ (L.length : Int) < n) : (Vol.stand R U L sf er p).seek n = (1, Vol.stand R U L sf er p) := by
  have e2 : tryR false 0 = (0, 0) := rfl
  unfold Vol.seek Vol.stand
  simp [e2, h]
theorem seek_ok (R U : Int) (L : List Bk) (sf : Nat) (er : Int) (p a : Nat) (h : a ≤ L.length) : (Vol.stand R U L sf er p).seek a = (0, Vol.stand R U L sf er a) := by
  have e2 : tryR false 0 = (0, 0) := rfl
  unfold Vol.seek Vol.stand
  simp [e2]
  omega
theorem write_far (R U : Int) (L : List Bk) (sf : Nat) (er : Int) (p : Nat) (k : Bk) (h : p ≠ L.length) : (Vol.stand R U L sf er p).write k = (16, Vol.stand R U L sf er p) := by
  have e2 : tryR false 0 = (0, 0) := rfl
  unfold Vol.write Vol.stand
  simp [e2, h]
end Go.Proofs.Ytdgaknpocbnomaa
