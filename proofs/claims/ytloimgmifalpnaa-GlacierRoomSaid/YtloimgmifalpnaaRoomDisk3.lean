/- A disk of platter that has one file at most: Append, New. No condition. -/
import Derived.Test.YtloimgmifalpnaaRoomDisk2
set_option linter.unusedSimpArgs false
set_option linter.unusedVariables false
namespace Go.Proofs.Ytloimgmifalpnaa
open Go.RowKit
set_option maxHeartbeats 2000000
set_option maxRecDepth 100000

theorem disk_append (bd B : Nat) (R : Int) (x : Option (Nat × ByteArray)) (hR0 : 0 ≤ R) (hR1 : R ≤ 1000) (hU : (sz x : Int) ≤ R) (s : ByteArray) (hs : s.size ≤ 1000) (w : World) (h : Dk w bd B R x) :
    Calls Try.prog 9 #[.pointer (some ⟨bd, 0, none⟩), .string ⟨#[97]⟩, .string s] w
      (fun e w' => Only (fun k => k = bd ∨ k = B) w w' ∧ ((((sz x : Int) + s.size ≤ R) ∧ e = .returned (.int .i64 (0)) ∧ ∃ g t, (t : ByteArray).size = sz x + s.size ∧ Dk w' bd B R (some (g, t))) ∨ (R < (sz x : Int) + s.size ∧ e = .returned (.int .i64 (7)) ∧ Dk w' bd B R x))) := by
  have htx := tx_size x
  have htr : tryR false 0 = (0, 0) := rfl
  have HTr := Lib.hid (try_blk bd 2 _ _ w false 0 h.blk rfl rfl (by omega) 0 0 _ htr rfl)
  have htz : (tx x ++ s).size = sz x + s.size := by rw [ByteArray.size_append, htx]
  have HP := Lib.hid (fun (wx : World) (hx : Dk wx bd B R x) => disk_put bd B R x hR0 hR1 hU (tx x ++ s) (by omega) (by omega) wx hx)
  have hcat : (tx x).size + s.size ≤ 9223372036854775807 := by omega
  have Hne : Hid (∀ f y, x = some (f, y) → f ≠ bd) := Lib.hid (fun f y e => Blk.ne (h.file f y e) h.blk (by decide))
  (go_enter Try.func9, Try.ntmps9)
  go_wp2_with fail
  refine HTr.out.mono ?_; rintro e w1 ⟨rfl, hb1, hO1⟩
  have h1 : Dk w1 bd B R x := ⟨hb1, h.map.keep hO1 (fun e => (h.map.ne h.blk) e), fun f y e => (h.file f y e).keep hO1 (fun e' => Hne.out f y e e')⟩
  clear HTr hb1
  have HG := Lib.hid (disk_get bd B R x _ h1)
  go_wp2_with fail
  refine HG.out.mono ?_; rintro e w2 ⟨y, tt, rfl, hy, hB⟩
  have h2 := h1.below hB
  have c1 := hy.cell 1
  simp only [List.getElem?_toArray, List.getElem?_cons_zero, List.getElem?_cons_succ] at c1
  have HPx := Lib.hid (HP.out _ h2)
  clear HG HP h1 htr htx hy
  generalize tx x = tq at *
  go_wp2_with fail
  refine HPx.out.mono ?_; rintro e w3 ⟨hO3, hres⟩
  have hO : Only (fun k => k = bd ∨ k = B) w w3 := ((hO1.mono (fun _ _ e => Or.inl e)).trans (only_of_below hB (fun _ => False)) (fun _ _ e => e.elim)).trans hO3 (fun _ _ e => e)
  rcases hres with ⟨r1, rfl, g, r2⟩ | ⟨r1, rfl, r2⟩
  · go_wp2_with fail
    go_ret
    exact ⟨hO, Or.inl ⟨by omega, rfl, g, _, htz, r2⟩⟩
  · go_wp2_with fail
    go_ret
    exact ⟨hO, Or.inr ⟨by omega, rfl, r2⟩⟩
theorem disk_New (R : Int) (hR0 : 0 ≤ R) (w : World) : Calls Try.prog 5 #[.int .i64 (R)] w (fun e w' => ∃ bd B, e = .returned (.pointer (some ⟨bd, 0, none⟩)) ∧ Dk w' bd B R none ∧ Below w.heap.size w w' ∧ w.heap.size ≤ bd ∧ w.heap.size ≤ B) := by
  have hmm := @run_makeMap Try.prog
  (go_enter Try.func5, Try.ntmps5)
  go_wp2_with fail
  refine (meter_made R R (by omega) w).mono ?_; rintro e w1 ⟨rfl, rfl⟩
  go_wp2_with fail
  go_ret
  refine ⟨w.heap.size + 1 + 1, w.heap.size + 1, rfl, ⟨?_, ⟨0, ?_⟩, fun f s e => by cases e⟩, (by repeat' (first | exact Below.refl _ _ | assumption | refine Below.setCell ?_ (by first | omega | (simp; done) | (simp; omega)) _ | refine Below.alloc ?_ (by first | omega | (simp; done) | (simp; omega)) _ | refine below_drew ?_ _ | apply Below.drew)), by omega, by omega⟩
  · exact Blk.new' (by simp)
  · rw [Below.heap_alloc _ _ _ (by simp)]
    unfold World.alloc
    simp only
    rw [Array.getElem?_push]
    simp
end Go.Proofs.Ytloimgmifalpnaa
