/- A disk of platter that has one file at most: put, Append, New. No condition. -/
import Derived.Test.YtloimgmifalpnaaRoomDisk
set_option linter.unusedSimpArgs false
set_option linter.unusedVariables false
namespace Go.Proofs.Ytloimgmifalpnaa
open Go.RowKit
set_option maxHeartbeats 1000000
set_option maxRecDepth 100000

theorem disk_put (bd B : Nat) (R : Int) (x : Option (Nat × ByteArray)) (hR0 : 0 ≤ R) (hR1 : R ≤ 1000) (hU : (sz x : Int) ≤ R) (t : ByteArray) (ht : t.size ≤ 100000) (hxt : sz x ≤ t.size) (w : World) (h : Dk w bd B R x) :
    Calls Try.prog 18 #[.pointer (some ⟨bd, 0, none⟩), .string ⟨#[97]⟩, .agg #[.bool true, .string t]] w
      (fun e w' => Only (fun k => k = bd ∨ k = B) w w' ∧ (((t.size : Int) ≤ R ∧ e = .returned (.int .i64 (0)) ∧ ∃ g, Dk w' bd B R (some (g, t))) ∨ (R < (t.size : Int) ∧ e = .returned (.int .i64 (7)) ∧ Dk w' bd B R x))) := by
  have h1 : Dk (w.alloc (.cells #[.bool true, .string t] 60)) bd B R x := h.below (Below.alloc (Below.refl _ _) (Nat.le_refl _) _)
  have hbx1 : Blk (w.alloc (.cells #[.bool true, .string t] 60)) w.heap.size #[.bool true, .string t] 60 := Blk.new _ _ _
  have HG := Lib.hid (disk_get bd B R x _ h1)
  have hbe1 : Below w.heap.size w (w.alloc (.cells #[.bool true, .string t] 60)) := Below.alloc (Below.refl _ _) (Nat.le_refl _) _
  have htx := tx_size x
  (go_enter Try.func18, Try.ntmps18)
  go_wp2_with fail
  refine HG.out.mono ?_; rintro e w2 ⟨y, tt, rfl, hy, hB⟩
  have h2 := h1.below hB
  have hbx2 := hbx1.keep (only_of_below hB (fun _ => False)) (fun e => e)
  have hbe2 := hbe1.trans (hB.mono (by simp))
  clear HG h1 hbx1 hbe1 hB
  generalize hbx : w.heap.size = bx at hbx2 ⊢
  have Hbx := Lib.hid hbx
  clear hbx
  have hbxl := hbx2.lt
  have hyl := hy.lt
  have k0 := hbx2.cell 0
  have k1 := hbx2.cell 1
  have k2 := hy.cell 2
  have k3 := hy.cell 3
  simp only [List.getElem?_toArray, List.getElem?_cons_zero, List.getElem?_cons_succ] at k0 k1 k2 k3
  go_wp2_with fail
  refine Inv.region_inv2 (n := 8) (by kernel_rfl) [some 15, some 16, some 17, some 18, some 19, some 20, some 8, none] rfl (by kernel_rfl) (by kernel_rfl) rfl (by rfl)
    (fun d v w => match d with
      | 0 => v = Value.agg #[.bool true, .string t]
      | 1 => v = .pointer (some ⟨y, 0, none⟩)
      | 2 => v = .pointer (some ⟨y, 0, none⟩)
      | 3 => v = .pointer (some ⟨y, 2, none⟩)
      | 4 => v = Value.agg #[.bool false, .string ⟨#[]⟩]
      | 5 => v = Value.agg #[.bool true, .string t, .bool false, .string ⟨#[]⟩]
      | 6 => v = .pointer (some ⟨w2.heap.size, 0, none⟩)
      | _ => True) (fun listed w => Below w2.heap.size w2 w ∧ (listed.getD 6 false = false → w.heap.size = w2.heap.size) ∧ (listed.getD 7 false = false → listed.getD 6 false = true → Blk w w2.heap.size #[.bool false, .string ⟨#[]⟩, .bool false, .string ⟨#[]⟩] 62) ∧ (listed.getD 7 false = true → Blk w w2.heap.size #[.bool true, .string t, .bool false, .string ⟨#[]⟩] 62)) ?_ ?_ ?_
  · exact ⟨below_drew (Below.refl _ _) 1, fun _ => rfl, (by intro _ h; rw [Inv.getD_rep] at h; cases h), (by intro h; rw [Inv.getD_rep] at h; cases h)⟩
  · intro i o listed a vs w ho hls hl hdep hcl hout hev hT hG
    have hi : i < 8 := (Array.getElem?_eq_some_iff.1 ho).1
    have iN : i = 0 ∨ i = 1 ∨ i = 2 ∨ i = 3 ∨ i = 4 ∨ i = 5 ∨ i = 6 ∨ i = 7 := by omega
    rcases iN with rfl | rfl | rfl | rfl | rfl | rfl | rfl | rfl
    · simp only [List.getElem?_toArray, List.getElem?_cons_zero, List.getElem?_cons_succ, Option.some.injEq] at ho
      subst ho
      refine ⟨rfl, fun K hK => ?_⟩
      have q5 := (hout 5 (by decide)).trans (rfl : _ = (.pointer (some ⟨bx, 0, none⟩) : Value))
      have j0 := (hG.1.cell (p := ⟨bx, 0, none⟩) hbxl).trans k0
      have j1 := (hG.1.cell (p := ⟨bx, 1, none⟩) hbxl).trans k1
      have j2 := (hG.1.cell (p := ⟨y, 2, none⟩) hyl).trans k2
      have j3 := (hG.1.cell (p := ⟨y, 3, none⟩) hyl).trans k3
      try simp only [Act.eval, Array.getD_eq_getD_getElem?] at q5
      unfold Oper.wp
      simp [execOp, q5, j0, j1, go_sem, Oper.upon]
      exact hK _ _ hT (by simpa only [getD_set_ne (i := 0) (j := 6) false (by decide), getD_set_ne (i := 0) (j := 7) false (by decide)] using hG) rfl
    · simp only [List.getElem?_toArray, List.getElem?_cons_zero, List.getElem?_cons_succ, Option.some.injEq] at ho
      subst ho
      refine ⟨rfl, fun K hK => ?_⟩
      have q7 := (hout 7 (by decide)).trans (rfl : _ = (.pointer (some ⟨y, 0, none⟩) : Value))
      have j0 := (hG.1.cell (p := ⟨bx, 0, none⟩) hbxl).trans k0
      have j1 := (hG.1.cell (p := ⟨bx, 1, none⟩) hbxl).trans k1
      have j2 := (hG.1.cell (p := ⟨y, 2, none⟩) hyl).trans k2
      have j3 := (hG.1.cell (p := ⟨y, 3, none⟩) hyl).trans k3
      try simp only [Act.eval, Array.getD_eq_getD_getElem?] at q7
      unfold Oper.wp
      simp [execOp, q7, go_sem, Oper.upon]
      exact hK _ _ hT (by simpa only [getD_set_ne (i := 1) (j := 6) false (by decide), getD_set_ne (i := 1) (j := 7) false (by decide)] using hG) rfl
    · simp only [List.getElem?_toArray, List.getElem?_cons_zero, List.getElem?_cons_succ, Option.some.injEq] at ho
      subst ho
      refine ⟨rfl, fun K hK => ?_⟩
      have dp1 := hdep ⟨1, .data⟩ (by simp) rfl
      have ep1 := hev 1 16 rfl dp1
      rw [hT 1 dp1] at ep1
      have j0 := (hG.1.cell (p := ⟨bx, 0, none⟩) hbxl).trans k0
      have j1 := (hG.1.cell (p := ⟨bx, 1, none⟩) hbxl).trans k1
      have j2 := (hG.1.cell (p := ⟨y, 2, none⟩) hyl).trans k2
      have j3 := (hG.1.cell (p := ⟨y, 3, none⟩) hyl).trans k3
      try simp only [Act.eval, Array.getD_eq_getD_getElem?] at ep1
      unfold Oper.wp
      simp [execOp, ep1, go_sem, Oper.upon]
      exact hK _ _ hT (by simpa only [getD_set_ne (i := 2) (j := 6) false (by decide), getD_set_ne (i := 2) (j := 7) false (by decide)] using hG) rfl
    · simp only [List.getElem?_toArray, List.getElem?_cons_zero, List.getElem?_cons_succ, Option.some.injEq] at ho
      subst ho
      refine ⟨rfl, fun K hK => ?_⟩
      have dp2 := hdep ⟨2, .data⟩ (by simp) rfl
      have ep2 := hev 2 17 rfl dp2
      rw [hT 2 dp2] at ep2
      have j0 := (hG.1.cell (p := ⟨bx, 0, none⟩) hbxl).trans k0
      have j1 := (hG.1.cell (p := ⟨bx, 1, none⟩) hbxl).trans k1
      have j2 := (hG.1.cell (p := ⟨y, 2, none⟩) hyl).trans k2
      have j3 := (hG.1.cell (p := ⟨y, 3, none⟩) hyl).trans k3
      try simp only [Act.eval, Array.getD_eq_getD_getElem?] at ep2
      unfold Oper.wp
      simp [execOp, ep2, go_sem, Oper.upon]
      exact hK _ _ hT (by simpa only [getD_set_ne (i := 3) (j := 6) false (by decide), getD_set_ne (i := 3) (j := 7) false (by decide)] using hG) rfl
    · simp only [List.getElem?_toArray, List.getElem?_cons_zero, List.getElem?_cons_succ, Option.some.injEq] at ho
      subst ho
      refine ⟨rfl, fun K hK => ?_⟩
      have dp3 := hdep ⟨3, .data⟩ (by simp) rfl
      have ep3 := hev 3 18 rfl dp3
      rw [hT 3 dp3] at ep3
      have j0 := (hG.1.cell (p := ⟨bx, 0, none⟩) hbxl).trans k0
      have j1 := (hG.1.cell (p := ⟨bx, 1, none⟩) hbxl).trans k1
      have j2 := (hG.1.cell (p := ⟨y, 2, none⟩) hyl).trans k2
      have j3 := (hG.1.cell (p := ⟨y, 3, none⟩) hyl).trans k3
      try simp only [Act.eval, Array.getD_eq_getD_getElem?] at ep3
      unfold Oper.wp
      simp [execOp, ep3, j2, j3, go_sem, Oper.upon]
      exact hK _ _ hT (by simpa only [getD_set_ne (i := 4) (j := 6) false (by decide), getD_set_ne (i := 4) (j := 7) false (by decide)] using hG) rfl
    · simp only [List.getElem?_toArray, List.getElem?_cons_zero, List.getElem?_cons_succ, Option.some.injEq] at ho
      subst ho
      refine ⟨rfl, fun K hK => ?_⟩
      have dp0 := hdep ⟨0, .data⟩ (by simp) rfl
      have ep0 := hev 0 15 rfl dp0
      rw [hT 0 dp0] at ep0
      have dp4 := hdep ⟨4, .data⟩ (by simp) rfl
      have ep4 := hev 4 19 rfl dp4
      rw [hT 4 dp4] at ep4
      have j0 := (hG.1.cell (p := ⟨bx, 0, none⟩) hbxl).trans k0
      have j1 := (hG.1.cell (p := ⟨bx, 1, none⟩) hbxl).trans k1
      have j2 := (hG.1.cell (p := ⟨y, 2, none⟩) hyl).trans k2
      have j3 := (hG.1.cell (p := ⟨y, 3, none⟩) hyl).trans k3
      try simp only [Act.eval, Array.getD_eq_getD_getElem?] at ep0 ep4
      unfold Oper.wp
      simp [execOp, ep0, ep4, go_sem, Oper.upon]
      exact hK _ _ hT (by simpa only [getD_set_ne (i := 5) (j := 6) false (by decide), getD_set_ne (i := 5) (j := 7) false (by decide)] using hG) rfl
    · simp only [List.getElem?_toArray, List.getElem?_cons_zero, List.getElem?_cons_succ, Option.some.injEq] at ho
      subst ho
      refine ⟨rfl, fun K hK => ?_⟩
      have j0 := (hG.1.cell (p := ⟨bx, 0, none⟩) hbxl).trans k0
      have j1 := (hG.1.cell (p := ⟨bx, 1, none⟩) hbxl).trans k1
      have j2 := (hG.1.cell (p := ⟨y, 2, none⟩) hyl).trans k2
      have j3 := (hG.1.cell (p := ⟨y, 3, none⟩) hyl).trans k3
      unfold Oper.wp
      simp [execOp, go_sem, Oper.upon]
      have hsz := hG.2.1 hl
      have n7 : listed.getD 7 false = false := by
        cases h : listed.getD 7 false
        · rfl
        · exact absurd (hcl 7 _ rfl h ⟨6, .data⟩ (by simp) rfl) (by rw [hl]; decide)
      have hnew := Blk.new w #[.bool false, .string ⟨#[]⟩, .bool false, .string ⟨#[]⟩] 62
      have hal := hG.1.alloc hG.1.size (.cells #[.bool false, .string ⟨#[]⟩, .bool false, .string ⟨#[]⟩] 62)
      rw [hsz] at hnew ⊢
      have hk : ∀ j, listed.getD j false = true → (fun d v w => match d with
          | 0 => v = Value.agg #[.bool true, .string t]
          | 1 => v = .pointer (some ⟨y, 0, none⟩)
          | 2 => v = .pointer (some ⟨y, 0, none⟩)
          | 3 => v = .pointer (some ⟨y, 2, none⟩)
          | 4 => v = Value.agg #[.bool false, .string ⟨#[]⟩]
          | 5 => v = Value.agg #[.bool true, .string t, .bool false, .string ⟨#[]⟩]
          | 6 => v = .pointer (some ⟨w2.heap.size, 0, none⟩)
          | _ => True : Nat → Value → World → Prop) j (vs j) ((w.alloc (.cells #[.bool false, .string ⟨#[]⟩, .bool false, .string ⟨#[]⟩] 62))) := by
        intro j hj
        have h := hT j hj
        match j, hj, h with
        | 0, hj, h => exact h
        | 1, hj, h => exact h
        | 2, hj, h => exact h
        | 3, hj, h => exact h
        | 4, hj, h => exact h
        | 5, hj, h => exact h
        | 6, hj, h => exact absurd hj (by rw [hl]; decide)
        | 7, hj, h => exact trivial
        | d + 8, hj, h => exact trivial
      refine hK _ _ hk ⟨hal, ?_, ?_, ?_⟩ rfl
      · rw [Inv.getD_set_self (by omega)]; exact fun h => by cases h
      · exact fun _ _ => hnew
      · rw [getD_set_ne (i := 6) (j := 7) false (by decide), n7]; exact fun h => by cases h
    · simp only [List.getElem?_toArray, List.getElem?_cons_zero, List.getElem?_cons_succ, Option.some.injEq] at ho
      subst ho
      refine ⟨rfl, fun K hK => ?_⟩
      have dp6 := hdep ⟨6, .data⟩ (by simp) rfl
      have ep6 := hev 6 8 rfl dp6
      rw [hT 6 dp6] at ep6
      have dp5 := hdep ⟨5, .data⟩ (by simp) rfl
      have ep5 := hev 5 20 rfl dp5
      rw [hT 5 dp5] at ep5
      have j0 := (hG.1.cell (p := ⟨bx, 0, none⟩) hbxl).trans k0
      have j1 := (hG.1.cell (p := ⟨bx, 1, none⟩) hbxl).trans k1
      have j2 := (hG.1.cell (p := ⟨y, 2, none⟩) hyl).trans k2
      have j3 := (hG.1.cell (p := ⟨y, 3, none⟩) hyl).trans k3
      try simp only [Act.eval, Array.getD_eq_getD_getElem?] at ep6 ep5
      have hb := hG.2.2.1 hl dp6
      have q0 := hb.frozen 0
      have q1 := hb.frozen 1
      have q2 := hb.frozen 2
      have q3 := hb.frozen 3
      have r0 := hb.cell 0
      have r1 := hb.cell 1
      have r2 := hb.cell 2
      have r3 := hb.cell 3
      simp only [List.getElem?_toArray, List.getElem?_cons_zero, List.getElem?_cons_succ] at r0 r1 r2 r3
      unfold Oper.wp
      simp [execOp, ep6, ep5, r0, r1, r2, r3, q0, q1, q2, q3, go_sem, Oper.upon]
      have hb7 : Blk ((((w.setCell ⟨w2.heap.size, 0, none⟩ (.bool true)).setCell ⟨w2.heap.size, 1, none⟩ (.string t)).setCell ⟨w2.heap.size, 2, none⟩ (.bool false)).setCell ⟨w2.heap.size, 3, none⟩ (.string ⟨#[]⟩)) w2.heap.size #[.bool true, .string t, .bool false, .string ⟨#[]⟩] 62 := by
        simpa using (((hb.set 0 (.bool true)).set 1 (.string t)).set 2 (.bool false)).set 3 (.string ⟨#[]⟩)
      have hbe7 : Below w2.heap.size w2 ((((w.setCell ⟨w2.heap.size, 0, none⟩ (.bool true)).setCell ⟨w2.heap.size, 1, none⟩ (.string t)).setCell ⟨w2.heap.size, 2, none⟩ (.bool false)).setCell ⟨w2.heap.size, 3, none⟩ (.string ⟨#[]⟩)) :=
        (((hG.1.setCell (Nat.le_refl _) _).setCell (Nat.le_refl _) _).setCell (Nat.le_refl _) _).setCell (Nat.le_refl _) _
      have hk : ∀ j, listed.getD j false = true → (fun d v w => match d with
          | 0 => v = Value.agg #[.bool true, .string t]
          | 1 => v = .pointer (some ⟨y, 0, none⟩)
          | 2 => v = .pointer (some ⟨y, 0, none⟩)
          | 3 => v = .pointer (some ⟨y, 2, none⟩)
          | 4 => v = Value.agg #[.bool false, .string ⟨#[]⟩]
          | 5 => v = Value.agg #[.bool true, .string t, .bool false, .string ⟨#[]⟩]
          | 6 => v = .pointer (some ⟨w2.heap.size, 0, none⟩)
          | _ => True : Nat → Value → World → Prop) j (vs j) (((((w.setCell ⟨w2.heap.size, 0, none⟩ (.bool true)).setCell ⟨w2.heap.size, 1, none⟩ (.string t)).setCell ⟨w2.heap.size, 2, none⟩ (.bool false)).setCell ⟨w2.heap.size, 3, none⟩ (.string ⟨#[]⟩))) := by
        intro j hj
        have h := hT j hj
        match j, hj, h with
        | 0, hj, h => exact h
        | 1, hj, h => exact h
        | 2, hj, h => exact h
        | 3, hj, h => exact h
        | 4, hj, h => exact h
        | 5, hj, h => exact h
        | 6, hj, h => exact h
        | 7, hj, h => exact absurd hj (by rw [hl]; decide)
        | d + 8, hj, h => exact trivial
      refine hK undef _ hk ⟨hbe7, ?_, ?_, ?_⟩ trivial
      · rw [getD_set_ne (i := 7) (j := 6) false (by decide), dp6]; exact fun h => by cases h
      · rw [Inv.getD_set_self (by omega)]; exact fun h => by cases h
      · exact fun _ => hb7
  intro listed vs wR hall hT hG
  generalize hfr : Inv.frA _ _ _ _ = fr
  simp [Inv.frA, Act.put] at hfr
  have ex0 : vs 0 = Value.agg #[.bool true, .string t] := hT 0 (by omega)
  try rw [ex0] at hfr
  clear ex0
  have ex1 : vs 1 = .pointer (some ⟨y, 0, none⟩) := hT 1 (by omega)
  try rw [ex1] at hfr
  clear ex1
  have ex2 : vs 2 = .pointer (some ⟨y, 0, none⟩) := hT 2 (by omega)
  try rw [ex2] at hfr
  clear ex2
  have ex3 : vs 3 = .pointer (some ⟨y, 2, none⟩) := hT 3 (by omega)
  try rw [ex3] at hfr
  clear ex3
  have ex4 : vs 4 = Value.agg #[.bool false, .string ⟨#[]⟩] := hT 4 (by omega)
  try rw [ex4] at hfr
  clear ex4
  have ex5 : vs 5 = Value.agg #[.bool true, .string t, .bool false, .string ⟨#[]⟩] := hT 5 (by omega)
  try rw [ex5] at hfr
  clear ex5
  have ex6 : vs 6 = .pointer (some ⟨w2.heap.size, 0, none⟩) := hT 6 (by omega)
  try rw [ex6] at hfr
  clear ex6
  have fl6 := hall 6 (by omega)
  have fl7 := hall 7 (by omega)
  simp only [fl6, fl7, forall_const, reduceCtorEq, false_implies, implies_true, true_and, and_true, true_implies] at hG
  clear fl6 fl7
  clear hT hall
  subst hfr
  obtain ⟨hb3, hn⟩ := hG
  have h3 := h2.below hb3
  have hy3 := hy.keep (only_of_below hb3 (fun _ => False)) (fun e => e)
  have hbe3 := hbe2.trans (hb3.mono hbe2.size)
  clear k0 k1 k2 k3 h2 hy hbx2 hb3 hbe2
  generalize w2.heap.size = g at *
  obtain ⟨m, hm⟩ : ∃ m : Nat, t.size = sz x + m := ⟨t.size - sz x, by omega⟩
  have Hm := Lib.hid hm
  clear hm
  have HW1 := Lib.hid (fun (wx : World) (hx : Blk wx g #[.bool true, .string t, .bool false, .string ⟨#[]⟩] 62) => file_weight g true false t (by omega) wx hx)
  have HW2 := Lib.hid (fun (wx : World) (hx : Blk wx y #[.bool tt, .string (tx x), .bool false, .string ⟨#[]⟩] 62) => file_weight y tt false (tx x) (by omega) wx hx)
  rw [htx] at HW2
  go_wp2_with fail
  refine (HW1.out _ hn).mono ?_; rintro e w4 ⟨d1, rfl, rfl⟩
  go_wp2_with fail
  refine (HW2.out (wR.drewN d1) (by exact hy3)).mono ?_; rintro e w4 ⟨d2, rfl, rfl⟩
  rw [World.drewN_drewN]
  obtain ⟨w4, hw4⟩ : ∃ w4, w4 = wR.drewN (d1 + d2) := ⟨_, rfl⟩
  rw [← hw4]
  have h4 : Dk w4 bd B R x := by rw [hw4]; exact h3.below (below_drew (Below.refl _ _) _)
  have hn4 : Blk w4 g #[.bool true, .string t, .bool false, .string ⟨#[]⟩] 62 := by rw [hw4]; exact hn
  have hbe4 : Below w.heap.size w w4 := by rw [hw4]; exact below_drew hbe3 _
  clear hw4 h3 hn hbe3 hy3 HW1 HW2
  have hmlt := h4.map.lt
  have hbdB := h4.map.ne h4.blk
  have hgbd : g ≠ bd := Blk.ne hn4 h4.blk (by decide)
  have hgB : B ≠ g := h4.map.ne hn4
  have c4 := h4.blk.cell 4
  simp only [List.getElem?_toArray, List.getElem?_cons_zero, List.getElem?_cons_succ] at c4
  have i1 : (t.size : Int) - (sz x : Int) = (m : Int) := by have := Hm.out; omega
  have hO4 : Only (fun k => k = bd ∨ k = B) w w4 := only_of_below hbe4 _
  rcases Nat.eq_zero_or_pos m with hm0 | hm0
  · subst hm0
    have hts : (t.size : Int) = (sz x : Int) := by have := Hm.out; omega
    have Hts := Lib.hid hts
    have hgv : giveR (sz x : Int) 0 = (0, (t.size : Int)) := by
      unfold giveR
      rw [if_neg (by omega), if_neg (by omega), hts]
      simp
    have HGv := Lib.hid (give_blk bd 0 _ _ w4 (sz x : Int) 0 h4.blk rfl (by omega) (by omega) 0 (t.size : Int) #[.int .i64 (R), .int .i64 (((t.size : Nat) : Int)), .bool false, .int .i64 (0), .map (some B)] hgv rfl)
    have hle : (t.size : Int) ≤ R := by omega
    clear hgv hts
    go_wp2_with fail
    refine HGv.out.mono ?_; rintro e w5 ⟨rfl, hb5, hO5⟩
    clear HGv
    have hmp : MapOf w5 B (x.map (·.1)) := h4.map.keep hO5 (fun e => hbdB e)
    obtain ⟨w6, hrun, hm6, hO6⟩ := run_put w5 B _ hmp g
    have hrun' : (Instr.mapUpdate 34 (.map (some B)) (.string ⟨#[97]⟩) (.pointer (some ⟨g, 0, none⟩))).run Try.prog w5 = .ok () w6 := hrun
    have e4 := hb5.cell 4
    simp only [List.getElem?_toArray, List.getElem?_cons_zero, List.getElem?_cons_succ] at e4
    have hblk6 := hb5.keep hO6 (fun e => hbdB e.symm)
    have hfile6 := (hn4.keep hO5 hgbd).keep hO6 (fun e => hgB e.symm)
    have hOall : Only (fun k => k = bd ∨ k = B) w w6 := (hO4.trans hO5 (fun _ _ e => Or.inl e)).trans hO6 (fun _ _ e => Or.inr e)
    clear hrun c4
    go_wp2_with fail
    go_ret
    refine ⟨hOall, Or.inl ⟨by omega, rfl, g, ?_, hm6, ?_⟩⟩
    · exact hblk6
    · rintro f s ⟨⟩
      exact hfile6
  · have i2 : (0 : Int) < (m : Int) := by omega
    by_cases hf : (m : Int) ≤ R - (sz x : Int)
    · have htk : takeR R (sz x : Int) (m : Int) = (0, (t.size : Int)) := by
        unfold takeR
        rw [if_neg (by omega), if_pos hf]
        have := Hm.out
        congr 1
        omega
      have HTk := Lib.hid (take_blk bd 0 _ _ w4 R (sz x : Int) (m : Int) h4.blk rfl rfl (by omega) (by omega) (by omega) 0 (t.size : Int) #[.int .i64 (R), .int .i64 (((t.size : Nat) : Int)), .bool false, .int .i64 (0), .map (some B)] htk rfl)
      have hle : (t.size : Int) ≤ R := by have := Hm.out; omega
      clear htk
      go_wp2_with fail
      refine HTk.out.mono ?_; rintro e w5 ⟨rfl, hb5, hO5⟩
      clear HTk
      have hmp : MapOf w5 B (x.map (·.1)) := h4.map.keep hO5 (fun e => hbdB e)
      obtain ⟨w6, hrun, hm6, hO6⟩ := run_put w5 B _ hmp g
      have hrun' : (Instr.mapUpdate 34 (.map (some B)) (.string ⟨#[97]⟩) (.pointer (some ⟨g, 0, none⟩))).run Try.prog w5 = .ok () w6 := hrun
      have e4 := hb5.cell 4
      simp only [List.getElem?_toArray, List.getElem?_cons_zero, List.getElem?_cons_succ] at e4
      have hblk6 := hb5.keep hO6 (fun e => hbdB e.symm)
      have hfile6 := (hn4.keep hO5 hgbd).keep hO6 (fun e => hgB e.symm)
      have hOall : Only (fun k => k = bd ∨ k = B) w w6 := (hO4.trans hO5 (fun _ _ e => Or.inl e)).trans hO6 (fun _ _ e => Or.inr e)
      clear hrun c4
      go_wp2_with fail
      go_ret
      refine ⟨hOall, Or.inl ⟨by omega, rfl, g, ?_, hm6, ?_⟩⟩
      · exact hblk6
      · rintro f s ⟨⟩
        exact hfile6
    · have htk : takeR R (sz x : Int) (m : Int) = (7, (sz x : Int)) := by
        unfold takeR
        rw [if_neg (by omega), if_neg hf]
      have HTk := Lib.hid (take_blk bd 0 _ _ w4 R (sz x : Int) (m : Int) h4.blk rfl rfl (by omega) (by omega) (by omega) 7 (sz x : Int) #[.int .i64 (R), .int .i64 (((sz x : Nat) : Int)), .bool false, .int .i64 (0), .map (some B)] htk rfl)
      have hle : R < (t.size : Int) := by have := Hm.out; omega
      clear htk
      go_wp2_with fail
      refine HTk.out.mono ?_; rintro e w5 ⟨rfl, hb5, hO5⟩
      clear HTk
      have h5 : Dk w5 bd B R x := ⟨hb5, h4.map.keep hO5 (fun e => hbdB e), fun f s e => (h4.file f s e).keep hO5 (fun e' => by
        have := Blk.ne (h4.file f s e) h4.blk (by decide)
        exact this e')⟩
      go_wp2_with fail
      go_ret
      exact ⟨hO4.trans hO5 (fun _ _ e => Or.inl e), Or.inr ⟨hle, rfl, h5⟩⟩
end Go.Proofs.Ytloimgmifalpnaa
