/- What command.Read answers. No condition. -/
import Derived.Test.YtafdnalanmbcpaaCmdG
import Derived.Test.YtafdnalanmbcpaaWire8
set_option linter.unusedSimpArgs false
set_option linter.unusedVariables false
namespace Go.Proofs.Ytafdnalanmbcpaa
open Go.RowKit
set_option maxHeartbeats 4000000
set_option maxRecDepth 100000

theorem Wire.decIs_each (each : Int) (m : Nat) (l : List UInt8) (k : Int) : ∀ x ∈ (decIs each m l k).1, x ≤ each.toNat := by
  induction m generalizing l k with
  | zero => simp [decIs]
  | succ m ih =>
    rw [decIs]
    split
    · intro x hx
      rcases List.mem_cons.1 hx with rfl | hx
      · exact decI_le each l k
      · exact ih _ _ x hx
    · simp
theorem Wire.decL_each (most each : Int) (l : List UInt8) (k : Int) (h : 0 ≤ each) : ∀ x ∈ (decL most each l k).1, x ≤ each.toNat := by
  unfold decL
  split
  · exact decIs_each _ _ _ _
  · simp
theorem Wire.decL_num (most each : Int) (l : List UInt8) (k : Int) : (decL most each l k).1.length ≤ most.toNat := by
  have h1 := decIs_len each (decI most l k).1 (decI most l k).2.1 (decI most l k).2.2
  have h2 := decI_le most l k
  unfold decL
  split
  · omega
  · simp
theorem Wire.decS_val (most : Int) (l : List UInt8) (k : Int) : (decS most l k).1.length ≤ most.toNat := by
  have h2 := decI_le most l k
  unfold decS
  split
  · split
    · simp
    · simp only [List.length_take]; omega
  · simp
theorem dec_From' (s : ByteArray) (w : World) : Calls Try.prog 17 #[.string s] w (fun e w' => e = .returned (.pointer (some ⟨w.heap.size, 0, none⟩)) ∧ w' = w.alloc (.cells #[.string s, .int .i64 (0)] 61)) := by
  (go_enter Try.func17, Try.ntmps17)
  go_wp2_with fail
  go_ret
  exact ⟨rfl, rfl⟩
theorem set11 {w : World} {b : Nat} {T : TypeId} {c0 c1 c2 c3 c4 c5 c6 c7 c8 c9 c10 : Value} (h : Blk w b #[c0, c1, c2, c3, c4, c5, c6, c7, c8, c9, c10] T) (v0 v1 v2 v3 v4 v5 v6 v7 v8 v9 v10 : Value) : Blk (((((((((((w.setCell ⟨b, 0, none⟩ v0).setCell ⟨b, 1, none⟩ v1).setCell ⟨b, 2, none⟩ v2).setCell ⟨b, 3, none⟩ v3).setCell ⟨b, 4, none⟩ v4).setCell ⟨b, 5, none⟩ v5).setCell ⟨b, 6, none⟩ v6).setCell ⟨b, 7, none⟩ v7).setCell ⟨b, 8, none⟩ v8).setCell ⟨b, 9, none⟩ v9).setCell ⟨b, 10, none⟩ v10) b #[v0, v1, v2, v3, v4, v5, v6, v7, v8, v9, v10] T ∧ Only (· = b) w (((((((((((w.setCell ⟨b, 0, none⟩ v0).setCell ⟨b, 1, none⟩ v1).setCell ⟨b, 2, none⟩ v2).setCell ⟨b, 3, none⟩ v3).setCell ⟨b, 4, none⟩ v4).setCell ⟨b, 5, none⟩ v5).setCell ⟨b, 6, none⟩ v6).setCell ⟨b, 7, none⟩ v7).setCell ⟨b, 8, none⟩ v8).setCell ⟨b, 9, none⟩ v9).setCell ⟨b, 10, none⟩ v10) :=
  ⟨by simpa using (((((((((((h.set 0 v0).set 1 v1).set 2 v2).set 3 v3).set 4 v4).set 5 v5).set 6 v6).set 7 v7).set 8 v8).set 9 v9).set 10 v10), ((((((((((((Only.refl (· = b) w).setCell ⟨b, 0, none⟩ v0 (fun _ => rfl)).setCell ⟨b, 1, none⟩ v1 (fun _ => rfl)).setCell ⟨b, 2, none⟩ v2 (fun _ => rfl)).setCell ⟨b, 3, none⟩ v3 (fun _ => rfl)).setCell ⟨b, 4, none⟩ v4 (fun _ => rfl)).setCell ⟨b, 5, none⟩ v5 (fun _ => rfl)).setCell ⟨b, 6, none⟩ v6 (fun _ => rfl)).setCell ⟨b, 7, none⟩ v7 (fun _ => rfl)).setCell ⟨b, 8, none⟩ v8 (fun _ => rfl)).setCell ⟨b, 9, none⟩ v9 (fun _ => rfl)).setCell ⟨b, 10, none⟩ v10 (fun _ => rfl))⟩
theorem cmd_Read (l : List UInt8) (hl : l.length ≤ 900000) (W : World) : Calls Try.prog 12 #[.string (bs l)] W (fun e w' => Below W.heap.size W w' ∧ ∃ t : Cmd.Taken, t.Of l ∧
    (t.err ≠ 0 → e = .returned (.tuple #[.agg #[.int .i64 (0), .int .i64 (0), .int .i64 (0), .string ⟨#[]⟩, .int .u64 0, .int .i64 (0), .int .u32 0, .slice none 0 0, .int .i64 (0), .int .i64 (0), .int .i64 (0)], .int .i64 (t.err)])) ∧
    (t.err = 0 → ∃ dao dcap, e = .returned (.tuple #[.agg (t.cmd.cells dao dcap), .int .i64 (0)]) ∧ Sl w' (.slice dao t.cmd.disks.length dcap) t.cmd.disks.length 1 (i64v t.cmd.disks))) := by
  have hR0 := Blk.new W #[.int .i64 (0), .int .i64 (0), .int .i64 (0), .string ⟨#[]⟩, .int .u64 0, .int .i64 (0), .int .u32 0, .slice none 0 0, .int .i64 (0), .int .i64 (0), .int .i64 (0)] 26
  have HR0 := Lib.hid hR0
  clear hR0
  (go_enter Try.func12, Try.ntmps12)
  go_wp2_with fail
  refine (dec_From' _ _).mono ?_; rintro e wz ⟨rfl, rfl⟩
  have hR := ((HR0.out.alloc (.cells #[.string (bs l), .int .i64 (0)] 61)).alloc (.cells #[.int .i64 (0), .int .i64 (0), .int .i64 (0), .string ⟨#[]⟩, .int .u64 0, .int .i64 (0), .int .u32 0, .slice none 0 0, .int .i64 (0), .int .i64 (0), .int .i64 (0)] 26))
  have hD : Blk (((W.alloc (.cells #[.int .i64 (0), .int .i64 (0), .int .i64 (0), .string ⟨#[]⟩, .int .u64 0, .int .i64 (0), .int .u32 0, .slice none 0 0, .int .i64 (0), .int .i64 (0), .int .i64 (0)] 26)).alloc (.cells #[.string (bs l), .int .i64 (0)] 61)).alloc (.cells #[.int .i64 (0), .int .i64 (0), .int .i64 (0), .string ⟨#[]⟩, .int .u64 0, .int .i64 (0), .int .u32 0, .slice none 0 0, .int .i64 (0), .int .i64 (0), .int .i64 (0)] 26)) (W.heap.size + 1) #[.string (bs l), .int .i64 (0)] 61 := (Blk.new' (by simp)).alloc _
  have hC : Blk (((W.alloc (.cells #[.int .i64 (0), .int .i64 (0), .int .i64 (0), .string ⟨#[]⟩, .int .u64 0, .int .i64 (0), .int .u32 0, .slice none 0 0, .int .i64 (0), .int .i64 (0), .int .i64 (0)] 26)).alloc (.cells #[.string (bs l), .int .i64 (0)] 61)).alloc (.cells #[.int .i64 (0), .int .i64 (0), .int .i64 (0), .string ⟨#[]⟩, .int .u64 0, .int .i64 (0), .int .u32 0, .slice none 0 0, .int .i64 (0), .int .i64 (0), .int .i64 (0)] 26)) (W.heap.size + 1 + 1) #[.int .i64 (0), .int .i64 (0), .int .i64 (0), .string ⟨#[]⟩, .int .u64 0, .int .i64 (0), .int .u32 0, .slice none 0 0, .int .i64 (0), .int .i64 (0), .int .i64 (0)] 26 := Blk.new' (by simp)
  have hB : Below W.heap.size W (((W.alloc (.cells #[.int .i64 (0), .int .i64 (0), .int .i64 (0), .string ⟨#[]⟩, .int .u64 0, .int .i64 (0), .int .u32 0, .slice none 0 0, .int .i64 (0), .int .i64 (0), .int .i64 (0)] 26)).alloc (.cells #[.string (bs l), .int .i64 (0)] 61)).alloc (.cells #[.int .i64 (0), .int .i64 (0), .int .i64 (0), .string ⟨#[]⟩, .int .u64 0, .int .i64 (0), .int .u32 0, .slice none 0 0, .int .i64 (0), .int .i64 (0), .int .i64 (0)] 26)) := (by repeat' (first | exact Below.refl _ _ | assumption | refine Below.setCell ?_ (by first | omega | (simp; done) | (simp; omega)) _ | refine Below.alloc ?_ (by first | omega | (simp; done) | (simp; omega)) _ | refine below_drew ?_ _ | apply Below.drew))
  clear HR0
  obtain ⟨a1, ha1⟩ : ∃ a, a = Wire.decI 14 l 0 := ⟨_, rfl⟩
  have na1 : a1.2.1.length ≤ 900000 := by have := Wire.decI_len 14 l 0; rw [← ha1] at this; omega
  have ma1 := Wire.decI_le 14 l 0
  rw [← ha1] at ma1
  have hU := dec_I 14 (by omega) _ (by omega) _ _ _ hD
  rw [← ha1] at hU
  have HU := Lib.hid hU
  have Ha1 := Lib.hid ha1
  clear hU ha1
  go_wp2_with fail
  refine HU.out.mono ?_; rintro e w0 ⟨rfl, hDx, hOx⟩
  have hCx := hC.keep hOx (by omega)
  have hRx := hR.keep hOx (by omega)
  have hBx := below_one hB hOx (by omega)
  have kC := hCx.cell 0
  have kF := hCx.frozen 0
  simp only [List.getElem?_toArray, List.getElem?_cons_zero, List.getElem?_cons_succ] at kC
  clear hD hC hR hB HU
  have hC : Blk (w0.setCell ⟨(W.heap.size + 1 + 1), 0, none⟩ (.int .i64 ((a1.1 : Nat)))) (W.heap.size + 1 + 1) #[.int .i64 ((a1.1 : Nat)), .int .i64 (0), .int .i64 (0), .string ⟨#[]⟩, .int .u64 0, .int .i64 (0), .int .u32 0, .slice none 0 0, .int .i64 (0), .int .i64 (0), .int .i64 (0)] 26 := by simpa using hCx.set 0 (.int .i64 ((a1.1 : Nat)))
  have hR := hRx.far ⟨(W.heap.size + 1 + 1), 0, none⟩ (by simp only; omega) (.int .i64 ((a1.1 : Nat)))
  have hD := hDx.far ⟨(W.heap.size + 1 + 1), 0, none⟩ (by simp only; omega) (.int .i64 ((a1.1 : Nat)))
  have hB := hBx.setCell (p := ⟨(W.heap.size + 1 + 1), 0, none⟩) (by simp only; omega) (.int .i64 ((a1.1 : Nat)))
  clear hCx hRx hDx hBx hOx
  obtain ⟨a2, ha2⟩ : ∃ a, a = Wire.decI 1073741824 a1.2.1 a1.2.2 := ⟨_, rfl⟩
  have na2 : a2.2.1.length ≤ 900000 := by have := Wire.decI_len 1073741824 a1.2.1 a1.2.2; rw [← ha2] at this; omega
  have ma2 := Wire.decI_le 1073741824 a1.2.1 a1.2.2
  rw [← ha2] at ma2
  have hU := dec_I 1073741824 (by omega) _ na1 _ _ _ hD
  rw [← ha2] at hU
  have HU := Lib.hid hU
  have Ha2 := Lib.hid ha2
  clear hU ha2
  go_wp2_with fail
  refine HU.out.mono ?_; rintro e w1 ⟨rfl, hDx, hOx⟩
  have hCx := hC.keep hOx (by omega)
  have hRx := hR.keep hOx (by omega)
  have hBx := below_one hB hOx (by omega)
  have kC := hCx.cell 1
  have kF := hCx.frozen 1
  simp only [List.getElem?_toArray, List.getElem?_cons_zero, List.getElem?_cons_succ] at kC
  clear hD hC hR hB HU
  have hC : Blk (w1.setCell ⟨(W.heap.size + 1 + 1), 1, none⟩ (.int .i64 ((a2.1 : Nat)))) (W.heap.size + 1 + 1) #[.int .i64 ((a1.1 : Nat)), .int .i64 ((a2.1 : Nat)), .int .i64 (0), .string ⟨#[]⟩, .int .u64 0, .int .i64 (0), .int .u32 0, .slice none 0 0, .int .i64 (0), .int .i64 (0), .int .i64 (0)] 26 := by simpa using hCx.set 1 (.int .i64 ((a2.1 : Nat)))
  have hR := hRx.far ⟨(W.heap.size + 1 + 1), 1, none⟩ (by simp only; omega) (.int .i64 ((a2.1 : Nat)))
  have hD := hDx.far ⟨(W.heap.size + 1 + 1), 1, none⟩ (by simp only; omega) (.int .i64 ((a2.1 : Nat)))
  have hB := hBx.setCell (p := ⟨(W.heap.size + 1 + 1), 1, none⟩) (by simp only; omega) (.int .i64 ((a2.1 : Nat)))
  clear hCx hRx hDx hBx hOx
  obtain ⟨a3, ha3⟩ : ∃ a, a = Wire.decI 1073741824 a2.2.1 a2.2.2 := ⟨_, rfl⟩
  have na3 : a3.2.1.length ≤ 900000 := by have := Wire.decI_len 1073741824 a2.2.1 a2.2.2; rw [← ha3] at this; omega
  have ma3 := Wire.decI_le 1073741824 a2.2.1 a2.2.2
  rw [← ha3] at ma3
  have hU := dec_I 1073741824 (by omega) _ na2 _ _ _ hD
  rw [← ha3] at hU
  have HU := Lib.hid hU
  have Ha3 := Lib.hid ha3
  clear hU ha3
  go_wp2_with fail
  refine HU.out.mono ?_; rintro e w2 ⟨rfl, hDx, hOx⟩
  have hCx := hC.keep hOx (by omega)
  have hRx := hR.keep hOx (by omega)
  have hBx := below_one hB hOx (by omega)
  have kC := hCx.cell 2
  have kF := hCx.frozen 2
  simp only [List.getElem?_toArray, List.getElem?_cons_zero, List.getElem?_cons_succ] at kC
  clear hD hC hR hB HU
  have hC : Blk (w2.setCell ⟨(W.heap.size + 1 + 1), 2, none⟩ (.int .i64 ((a3.1 : Nat)))) (W.heap.size + 1 + 1) #[.int .i64 ((a1.1 : Nat)), .int .i64 ((a2.1 : Nat)), .int .i64 ((a3.1 : Nat)), .string ⟨#[]⟩, .int .u64 0, .int .i64 (0), .int .u32 0, .slice none 0 0, .int .i64 (0), .int .i64 (0), .int .i64 (0)] 26 := by simpa using hCx.set 2 (.int .i64 ((a3.1 : Nat)))
  have hR := hRx.far ⟨(W.heap.size + 1 + 1), 2, none⟩ (by simp only; omega) (.int .i64 ((a3.1 : Nat)))
  have hD := hDx.far ⟨(W.heap.size + 1 + 1), 2, none⟩ (by simp only; omega) (.int .i64 ((a3.1 : Nat)))
  have hB := hBx.setCell (p := ⟨(W.heap.size + 1 + 1), 2, none⟩) (by simp only; omega) (.int .i64 ((a3.1 : Nat)))
  clear hCx hRx hDx hBx hOx
  obtain ⟨a4, ha4⟩ : ∃ a, a = Wire.decS 32 a3.2.1 a3.2.2 := ⟨_, rfl⟩
  have na4 : a4.2.1.length ≤ 900000 := by have := Wire.decS_len 32 a3.2.1 a3.2.2; rw [← ha4] at this; omega
  have hU := dec_S 32 (by omega) _ na3 _ _ _ hD
  rw [← ha4] at hU
  have HU := Lib.hid hU
  have Ha4 := Lib.hid ha4
  clear hU ha4
  go_wp2_with fail
  refine HU.out.mono ?_; rintro e w3 ⟨rfl, hDx, hOx⟩
  have hCx := hC.keep hOx (by omega)
  have hRx := hR.keep hOx (by omega)
  have hBx := below_one hB hOx (by omega)
  have kC := hCx.cell 3
  have kF := hCx.frozen 3
  simp only [List.getElem?_toArray, List.getElem?_cons_zero, List.getElem?_cons_succ] at kC
  clear hD hC hR hB HU
  have hC : Blk (w3.setCell ⟨(W.heap.size + 1 + 1), 3, none⟩ (.string (bs a4.1))) (W.heap.size + 1 + 1) #[.int .i64 ((a1.1 : Nat)), .int .i64 ((a2.1 : Nat)), .int .i64 ((a3.1 : Nat)), .string (bs a4.1), .int .u64 0, .int .i64 (0), .int .u32 0, .slice none 0 0, .int .i64 (0), .int .i64 (0), .int .i64 (0)] 26 := by simpa using hCx.set 3 (.string (bs a4.1))
  have hR := hRx.far ⟨(W.heap.size + 1 + 1), 3, none⟩ (by simp only; omega) (.string (bs a4.1))
  have hD := hDx.far ⟨(W.heap.size + 1 + 1), 3, none⟩ (by simp only; omega) (.string (bs a4.1))
  have hB := hBx.setCell (p := ⟨(W.heap.size + 1 + 1), 3, none⟩) (by simp only; omega) (.string (bs a4.1))
  clear hCx hRx hDx hBx hOx
  obtain ⟨a5, ha5⟩ : ∃ a, a = Wire.decU a4.2.1 a4.2.2 := ⟨_, rfl⟩
  have na5 : a5.2.1.length ≤ 900000 := by have := Wire.decU_len a4.2.1 a4.2.2; rw [← ha5] at this; omega
  have ma5 := Wire.decU_lt a4.2.1 a4.2.2
  rw [← ha5] at ma5
  have hU := dec_U  _ na4 _ _ _ hD
  rw [← ha5] at hU
  have HU := Lib.hid hU
  have Ha5 := Lib.hid ha5
  clear hU ha5
  go_wp2_with fail
  refine HU.out.mono ?_; rintro e w4 ⟨rfl, hDx, hOx⟩
  have hCx := hC.keep hOx (by omega)
  have hRx := hR.keep hOx (by omega)
  have hBx := below_one hB hOx (by omega)
  have kC := hCx.cell 4
  have kF := hCx.frozen 4
  simp only [List.getElem?_toArray, List.getElem?_cons_zero, List.getElem?_cons_succ] at kC
  clear hD hC hR hB HU
  have hC : Blk (w4.setCell ⟨(W.heap.size + 1 + 1), 4, none⟩ (.int .u64 (a5.1 : Int))) (W.heap.size + 1 + 1) #[.int .i64 ((a1.1 : Nat)), .int .i64 ((a2.1 : Nat)), .int .i64 ((a3.1 : Nat)), .string (bs a4.1), .int .u64 (a5.1 : Int), .int .i64 (0), .int .u32 0, .slice none 0 0, .int .i64 (0), .int .i64 (0), .int .i64 (0)] 26 := by simpa using hCx.set 4 (.int .u64 (a5.1 : Int))
  have hR := hRx.far ⟨(W.heap.size + 1 + 1), 4, none⟩ (by simp only; omega) (.int .u64 (a5.1 : Int))
  have hD := hDx.far ⟨(W.heap.size + 1 + 1), 4, none⟩ (by simp only; omega) (.int .u64 (a5.1 : Int))
  have hB := hBx.setCell (p := ⟨(W.heap.size + 1 + 1), 4, none⟩) (by simp only; omega) (.int .u64 (a5.1 : Int))
  clear hCx hRx hDx hBx hOx
  obtain ⟨a6, ha6⟩ : ∃ a, a = Wire.decI 4000 a5.2.1 a5.2.2 := ⟨_, rfl⟩
  have na6 : a6.2.1.length ≤ 900000 := by have := Wire.decI_len 4000 a5.2.1 a5.2.2; rw [← ha6] at this; omega
  have ma6 := Wire.decI_le 4000 a5.2.1 a5.2.2
  rw [← ha6] at ma6
  have hU := dec_I 4000 (by omega) _ na5 _ _ _ hD
  rw [← ha6] at hU
  have HU := Lib.hid hU
  have Ha6 := Lib.hid ha6
  clear hU ha6
  go_wp2_with fail
  refine HU.out.mono ?_; rintro e w5 ⟨rfl, hDx, hOx⟩
  have hCx := hC.keep hOx (by omega)
  have hRx := hR.keep hOx (by omega)
  have hBx := below_one hB hOx (by omega)
  have kC := hCx.cell 5
  have kF := hCx.frozen 5
  simp only [List.getElem?_toArray, List.getElem?_cons_zero, List.getElem?_cons_succ] at kC
  clear hD hC hR hB HU
  have hC : Blk (w5.setCell ⟨(W.heap.size + 1 + 1), 5, none⟩ (.int .i64 ((a6.1 : Nat)))) (W.heap.size + 1 + 1) #[.int .i64 ((a1.1 : Nat)), .int .i64 ((a2.1 : Nat)), .int .i64 ((a3.1 : Nat)), .string (bs a4.1), .int .u64 (a5.1 : Int), .int .i64 ((a6.1 : Nat)), .int .u32 0, .slice none 0 0, .int .i64 (0), .int .i64 (0), .int .i64 (0)] 26 := by simpa using hCx.set 5 (.int .i64 ((a6.1 : Nat)))
  have hR := hRx.far ⟨(W.heap.size + 1 + 1), 5, none⟩ (by simp only; omega) (.int .i64 ((a6.1 : Nat)))
  have hD := hDx.far ⟨(W.heap.size + 1 + 1), 5, none⟩ (by simp only; omega) (.int .i64 ((a6.1 : Nat)))
  have hB := hBx.setCell (p := ⟨(W.heap.size + 1 + 1), 5, none⟩) (by simp only; omega) (.int .i64 ((a6.1 : Nat)))
  clear hCx hRx hDx hBx hOx
  obtain ⟨a7, ha7⟩ : ∃ a, a = Wire.decU a6.2.1 a6.2.2 := ⟨_, rfl⟩
  have na7 : a7.2.1.length ≤ 900000 := by have := Wire.decU_len a6.2.1 a6.2.2; rw [← ha7] at this; omega
  have ma7 := Wire.decU_lt a6.2.1 a6.2.2
  rw [← ha7] at ma7
  have hU := dec_U  _ na6 _ _ _ hD
  rw [← ha7] at hU
  have HU := Lib.hid hU
  have Ha7 := Lib.hid ha7
  clear hU ha7
  go_wp2_with fail
  refine HU.out.mono ?_; rintro e w6 ⟨rfl, hDx, hOx⟩
  have hCx := hC.keep hOx (by omega)
  have hRx := hR.keep hOx (by omega)
  have hBx := below_one hB hOx (by omega)
  have kC := hCx.cell 6
  have kF := hCx.frozen 6
  simp only [List.getElem?_toArray, List.getElem?_cons_zero, List.getElem?_cons_succ] at kC
  clear hD hC hR hB HU
  have hC : Blk (w6.setCell ⟨(W.heap.size + 1 + 1), 6, none⟩ (.int .u32 ((a7.1 : Int) % 4294967296))) (W.heap.size + 1 + 1) #[.int .i64 ((a1.1 : Nat)), .int .i64 ((a2.1 : Nat)), .int .i64 ((a3.1 : Nat)), .string (bs a4.1), .int .u64 (a5.1 : Int), .int .i64 ((a6.1 : Nat)), .int .u32 ((a7.1 : Int) % 4294967296), .slice none 0 0, .int .i64 (0), .int .i64 (0), .int .i64 (0)] 26 := by simpa using hCx.set 6 (.int .u32 ((a7.1 : Int) % 4294967296))
  have hR := hRx.far ⟨(W.heap.size + 1 + 1), 6, none⟩ (by simp only; omega) (.int .u32 ((a7.1 : Int) % 4294967296))
  have hD := hDx.far ⟨(W.heap.size + 1 + 1), 6, none⟩ (by simp only; omega) (.int .u32 ((a7.1 : Int) % 4294967296))
  have hB := hBx.setCell (p := ⟨(W.heap.size + 1 + 1), 6, none⟩) (by simp only; omega) (.int .u32 ((a7.1 : Int) % 4294967296))
  clear hCx hRx hDx hBx hOx
  obtain ⟨a8, ha8⟩ : ∃ a, a = Wire.decL 6 5 a7.2.1 a7.2.2 := ⟨_, rfl⟩
  have na8 : a8.2.1.length ≤ 900000 := by have := Wire.decL_len 6 5 a7.2.1 a7.2.2; rw [← ha8] at this; omega
  have hU := dec_List 6 5 (by omega) (by omega) _ na7 _ _ _ hD
  rw [← ha8] at hU
  have HU := Lib.hid hU
  have Ha8 := Lib.hid ha8
  clear hU ha8
  have hbase := hC.lt
  go_wp2_with fail
  refine HU.out.mono ?_; rintro e w7 ⟨gv, rfl, hown, hDx, hOx⟩
  obtain ⟨dao, dcap, rfl, _, _, _, _⟩ := Sl.of_own hown
  have hCx := hC.keep hOx (by omega)
  have hRx := hR.keep hOx (by omega)
  have hBx := below_one hB hOx (by omega)
  have kC := hCx.cell 7
  have kF := hCx.frozen 7
  simp only [List.getElem?_toArray, List.getElem?_cons_zero, List.getElem?_cons_succ] at kC
  clear hD hC hR hB HU
  have hC : Blk (w7.setCell ⟨(W.heap.size + 1 + 1), 7, none⟩ (.slice dao a8.1.length dcap)) (W.heap.size + 1 + 1) #[.int .i64 ((a1.1 : Nat)), .int .i64 ((a2.1 : Nat)), .int .i64 ((a3.1 : Nat)), .string (bs a4.1), .int .u64 (a5.1 : Int), .int .i64 ((a6.1 : Nat)), .int .u32 ((a7.1 : Int) % 4294967296), .slice dao a8.1.length dcap, .int .i64 (0), .int .i64 (0), .int .i64 (0)] 26 := by simpa using hCx.set 7 (.slice dao a8.1.length dcap)
  have hR := hRx.far ⟨(W.heap.size + 1 + 1), 7, none⟩ (by simp only; omega) (.slice dao a8.1.length dcap)
  have hD := hDx.far ⟨(W.heap.size + 1 + 1), 7, none⟩ (by simp only; omega) (.slice dao a8.1.length dcap)
  have hB := hBx.setCell (p := ⟨(W.heap.size + 1 + 1), 7, none⟩) (by simp only; omega) (.slice dao a8.1.length dcap)
  have hown := own_keep hown ((Only.refl (· = (W.heap.size + 1 + 1)) w7).setCell ⟨(W.heap.size + 1 + 1), 7, none⟩ (.slice dao a8.1.length dcap) (fun _ => rfl)) (fun g hg e => by have := own_ge hown g hg; omega)
  clear hCx hRx hDx hBx hOx
  obtain ⟨a9, ha9⟩ : ∃ a, a = Wire.decI 1 a8.2.1 a8.2.2 := ⟨_, rfl⟩
  have na9 : a9.2.1.length ≤ 900000 := by have := Wire.decI_len 1 a8.2.1 a8.2.2; rw [← ha9] at this; omega
  have ma9 := Wire.decI_le 1 a8.2.1 a8.2.2
  rw [← ha9] at ma9
  have hU := dec_I 1 (by omega) _ na8 _ _ _ hD
  rw [← ha9] at hU
  have HU := Lib.hid hU
  have Ha9 := Lib.hid ha9
  clear hU ha9
  go_wp2_with fail
  refine HU.out.mono ?_; rintro e w8 ⟨rfl, hDx, hOx⟩
  have hCx := hC.keep hOx (by omega)
  have hRx := hR.keep hOx (by omega)
  have hBx := below_one hB hOx (by omega)
  have hownx := own_keep hown hOx (fun g hg e => by have := own_ge hown g hg; omega)
  have kC := hCx.cell 8
  have kF := hCx.frozen 8
  simp only [List.getElem?_toArray, List.getElem?_cons_zero, List.getElem?_cons_succ] at kC
  clear hD hC hR hB HU
  have hC : Blk (w8.setCell ⟨(W.heap.size + 1 + 1), 8, none⟩ (.int .i64 ((a9.1 : Nat)))) (W.heap.size + 1 + 1) #[.int .i64 ((a1.1 : Nat)), .int .i64 ((a2.1 : Nat)), .int .i64 ((a3.1 : Nat)), .string (bs a4.1), .int .u64 (a5.1 : Int), .int .i64 ((a6.1 : Nat)), .int .u32 ((a7.1 : Int) % 4294967296), .slice dao a8.1.length dcap, .int .i64 ((a9.1 : Nat)), .int .i64 (0), .int .i64 (0)] 26 := by simpa using hCx.set 8 (.int .i64 ((a9.1 : Nat)))
  have hR := hRx.far ⟨(W.heap.size + 1 + 1), 8, none⟩ (by simp only; omega) (.int .i64 ((a9.1 : Nat)))
  have hD := hDx.far ⟨(W.heap.size + 1 + 1), 8, none⟩ (by simp only; omega) (.int .i64 ((a9.1 : Nat)))
  have hB := hBx.setCell (p := ⟨(W.heap.size + 1 + 1), 8, none⟩) (by simp only; omega) (.int .i64 ((a9.1 : Nat)))
  clear hown
  have hown := own_keep hownx ((Only.refl (· = (W.heap.size + 1 + 1)) w8).setCell ⟨(W.heap.size + 1 + 1), 8, none⟩ (.int .i64 ((a9.1 : Nat))) (fun _ => rfl)) (fun g hg e => by have := own_ge hownx g hg; omega)
  clear hownx
  clear hCx hRx hDx hBx hOx
  obtain ⟨b1, hb1⟩ : ∃ a, a = Wire.decI 11 a9.2.1 a9.2.2 := ⟨_, rfl⟩
  have nb1 : b1.2.1.length ≤ 900000 := by have := Wire.decI_len 11 a9.2.1 a9.2.2; rw [← hb1] at this; omega
  have mb1 := Wire.decI_le 11 a9.2.1 a9.2.2
  rw [← hb1] at mb1
  have hU := dec_I 11 (by omega) _ na9 _ _ _ hD
  rw [← hb1] at hU
  have HU := Lib.hid hU
  have Hb1 := Lib.hid hb1
  clear hU hb1
  go_wp2_with fail
  refine HU.out.mono ?_; rintro e w9 ⟨rfl, hDx, hOx⟩
  have hCx := hC.keep hOx (by omega)
  have hRx := hR.keep hOx (by omega)
  have hBx := below_one hB hOx (by omega)
  have hownx := own_keep hown hOx (fun g hg e => by have := own_ge hown g hg; omega)
  have kC := hCx.cell 9
  have kF := hCx.frozen 9
  simp only [List.getElem?_toArray, List.getElem?_cons_zero, List.getElem?_cons_succ] at kC
  clear hD hC hR hB HU
  have hC : Blk (w9.setCell ⟨(W.heap.size + 1 + 1), 9, none⟩ (.int .i64 ((b1.1 : Nat)))) (W.heap.size + 1 + 1) #[.int .i64 ((a1.1 : Nat)), .int .i64 ((a2.1 : Nat)), .int .i64 ((a3.1 : Nat)), .string (bs a4.1), .int .u64 (a5.1 : Int), .int .i64 ((a6.1 : Nat)), .int .u32 ((a7.1 : Int) % 4294967296), .slice dao a8.1.length dcap, .int .i64 ((a9.1 : Nat)), .int .i64 ((b1.1 : Nat)), .int .i64 (0)] 26 := by simpa using hCx.set 9 (.int .i64 ((b1.1 : Nat)))
  have hR := hRx.far ⟨(W.heap.size + 1 + 1), 9, none⟩ (by simp only; omega) (.int .i64 ((b1.1 : Nat)))
  have hD := hDx.far ⟨(W.heap.size + 1 + 1), 9, none⟩ (by simp only; omega) (.int .i64 ((b1.1 : Nat)))
  have hB := hBx.setCell (p := ⟨(W.heap.size + 1 + 1), 9, none⟩) (by simp only; omega) (.int .i64 ((b1.1 : Nat)))
  clear hown
  have hown := own_keep hownx ((Only.refl (· = (W.heap.size + 1 + 1)) w9).setCell ⟨(W.heap.size + 1 + 1), 9, none⟩ (.int .i64 ((b1.1 : Nat))) (fun _ => rfl)) (fun g hg e => by have := own_ge hownx g hg; omega)
  clear hownx
  clear hCx hRx hDx hBx hOx
  obtain ⟨b2, hb2⟩ : ∃ a, a = Wire.decI 1073741824 b1.2.1 b1.2.2 := ⟨_, rfl⟩
  have nb2 : b2.2.1.length ≤ 900000 := by have := Wire.decI_len 1073741824 b1.2.1 b1.2.2; rw [← hb2] at this; omega
  have mb2 := Wire.decI_le 1073741824 b1.2.1 b1.2.2
  rw [← hb2] at mb2
  have hU := dec_I 1073741824 (by omega) _ nb1 _ _ _ hD
  rw [← hb2] at hU
  have HU := Lib.hid hU
  have Hb2 := Lib.hid hb2
  clear hU hb2
  go_wp2_with fail
  refine HU.out.mono ?_; rintro e w10 ⟨rfl, hDx, hOx⟩
  have hCx := hC.keep hOx (by omega)
  have hRx := hR.keep hOx (by omega)
  have hBx := below_one hB hOx (by omega)
  have hownx := own_keep hown hOx (fun g hg e => by have := own_ge hown g hg; omega)
  have kC := hCx.cell 10
  have kF := hCx.frozen 10
  simp only [List.getElem?_toArray, List.getElem?_cons_zero, List.getElem?_cons_succ] at kC
  clear hD hC hR hB HU
  have hC : Blk (w10.setCell ⟨(W.heap.size + 1 + 1), 10, none⟩ (.int .i64 ((b2.1 : Nat)))) (W.heap.size + 1 + 1) #[.int .i64 ((a1.1 : Nat)), .int .i64 ((a2.1 : Nat)), .int .i64 ((a3.1 : Nat)), .string (bs a4.1), .int .u64 (a5.1 : Int), .int .i64 ((a6.1 : Nat)), .int .u32 ((a7.1 : Int) % 4294967296), .slice dao a8.1.length dcap, .int .i64 ((a9.1 : Nat)), .int .i64 ((b1.1 : Nat)), .int .i64 ((b2.1 : Nat))] 26 := by simpa using hCx.set 10 (.int .i64 ((b2.1 : Nat)))
  have hR := hRx.far ⟨(W.heap.size + 1 + 1), 10, none⟩ (by simp only; omega) (.int .i64 ((b2.1 : Nat)))
  have hD := hDx.far ⟨(W.heap.size + 1 + 1), 10, none⟩ (by simp only; omega) (.int .i64 ((b2.1 : Nat)))
  have hB := hBx.setCell (p := ⟨(W.heap.size + 1 + 1), 10, none⟩) (by simp only; omega) (.int .i64 ((b2.1 : Nat)))
  clear hown
  have hown := own_keep hownx ((Only.refl (· = (W.heap.size + 1 + 1)) w10).setCell ⟨(W.heap.size + 1 + 1), 10, none⟩ (.int .i64 ((b2.1 : Nat))) (fun _ => rfl)) (fun g hg e => by have := own_ge hownx g hg; omega)
  clear hownx
  clear hCx hRx hDx hBx hOx
  obtain ⟨t, ht⟩ : ∃ t : Cmd.Taken, t = ⟨a1, a2, a3, a4, a5, a6, a7, a8, a9, b1, b2⟩ := ⟨_, rfl⟩
  have hOf : t.Of l := by subst ht; exact ⟨Ha1.out, Ha2.out, Ha3.out, Ha4.out, Ha5.out, Ha6.out, Ha7.out, Ha8.out, Ha9.out, Hb1.out, Hb2.out⟩
  have hcells : t.cmd.cells dao dcap = #[.int .i64 ((a1.1 : Nat)), .int .i64 ((a2.1 : Nat)), .int .i64 ((a3.1 : Nat)), .string (bs a4.1), .int .u64 (a5.1 : Int), .int .i64 ((a6.1 : Nat)), .int .u32 ((a7.1 : Int) % 4294967296), .slice dao a8.1.length dcap, .int .i64 ((a9.1 : Nat)), .int .i64 ((b1.1 : Nat)), .int .i64 ((b2.1 : Nat))] := by subst ht; simp [Cmd.cells, Cmd.Taken.cmd]
  have hWf : t.cmd.Wf := by
    subst ht
    refine ⟨?_, ?_, ?_, ?_, ?_, ?_, ?_, ?_, ?_, ?_⟩ <;> simp only [Cmd.Taken.cmd]
    · omega
    · omega
    · omega
    · omega
    · omega
    · exact Nat.mod_lt _ (by omega)
    · intro x hx
      obtain ⟨y, hy, rfl⟩ := List.mem_map.1 hx
      have h8 := Wire.decL_each 6 5 a7.2.1 a7.2.2 (by omega)
      rw [← Ha8.out] at h8
      have := h8 y hy
      simp only [Int.ofNat_eq_natCast]
      omega
    · omega
    · omega
    · omega
  have hnl : t.cmd.name.length ≤ 9223372036854775807 := by
    subst ht
    simp only [Cmd.Taken.cmd]
    have := Wire.decS_val 32 a3.2.1 a3.2.2
    rw [← Ha4.out] at this
    omega
  have hdl : t.cmd.disks.length = a8.1.length := by subst ht; simp [Cmd.Taken.cmd]
  have hd8 : a8.1.length ≤ 6 := by
    have := Wire.decL_num 6 5 a7.2.1 a7.2.2
    rw [← Ha8.out] at this
    omega
  have hdv : i64v t.cmd.disks = natv a8.1 := by subst ht; simp [Cmd.Taken.cmd, i64v, natv]
  have hsl := Sl.of_own hown
  have hgood : Hid (t.err = Wire.decD b2.2.1 (if b2.2.2 = 0 ∧ (4294967296 ≤ a7.1 ∨ t.cmd.good = false) then 3 else b2.2.2)) := Lib.hid (by subst ht; rfl)
  clear ht
  by_cases hs32 : 4294967296 ≤ a7.1
  · have hsh : (0 : Int) < (a7.1 : Int) / 4294967296 := by omega
    have hsh2 : ¬ ((a7.1 : Int) / 4294967296 = 0) := by omega
    have hsh3 : ((a7.1 : Int) / 4294967296 != 0) = true := by simp only [bne_iff_ne, ne_eq]; omega
    have hsh4 : ((a7.1 : Int) / 4294967296 == 0) = false := by rw [beq_eq_false_iff_ne]; omega
    obtain ⟨kk, hkk⟩ : ∃ kk, kk = if b2.2.2 = 0 then 3 else b2.2.2 := ⟨_, rfl⟩
    have he : Hid (t.err = Wire.decD b2.2.1 kk) := Lib.hid (by rw [hgood.out, hkk]; simp [hs32])
    have HF := Lib.hid (dec_fail_to _ 3 b2.2.2 kk (Lib.hid hkk) _ _ hD)
    clear hkk
    go_wp2_with fail
    refine HF.out.mono ?_; rintro e wf ⟨rfl, hDf, hOf2⟩
    have hCf := hC.keep hOf2 (by omega)
    have hRf := hR.keep hOf2 (by omega)
    have hBf := below_one hB hOf2 (by omega)
    have hownf := own_keep hown hOf2 (fun g hg e => by have := own_ge hown g hg; omega)
    clear hC hR hD hB hown hOf2 HF hsl
    have HDn := dec_Done b2.2.1 kk _ wf hDf
    rw [← he.out] at HDn
    have HDn := Lib.hid HDn
    obtain ⟨er, her⟩ : ∃ er, er = t.err := ⟨_, rfl⟩
    rw [← her] at HDn
    have Her := Lib.hid her
    clear her he hDf hgood
    go_wp2_with fail
    refine HDn.out.mono ?_; rintro e wd ⟨rfl, hDd, hOd⟩
    have hRd := hRf.keep hOd (by omega)
    have hCd := hCf.keep hOd (by omega)
    have hBd := below_one hBf hOd (by omega)
    have hownd := own_keep hownf hOd (fun g hg e => by have := own_ge hownf g hg; omega)
    clear hRf hCf hBf hownf HDn
    have r0 := hRd.cell 0
    have r1 := hRd.cell 1
    have r2 := hRd.cell 2
    have r3 := hRd.cell 3
    have r4 := hRd.cell 4
    have r5 := hRd.cell 5
    have r6 := hRd.cell 6
    have r7 := hRd.cell 7
    have r8 := hRd.cell 8
    have r9 := hRd.cell 9
    have r10 := hRd.cell 10
    simp only [List.getElem?_toArray, List.getElem?_cons_zero, List.getElem?_cons_succ] at r0 r1 r2 r3 r4 r5 r6 r7 r8 r9 r10
    have fR := hRd.frozen
    by_cases h0 : er = 0
    · subst h0
      have c0 := hCd.cell 0
      have c1 := hCd.cell 1
      have c2 := hCd.cell 2
      have c3 := hCd.cell 3
      have c4 := hCd.cell 4
      have c5 := hCd.cell 5
      have c6 := hCd.cell 6
      have c7 := hCd.cell 7
      have c8 := hCd.cell 8
      have c9 := hCd.cell 9
      have c10 := hCd.cell 10
      simp only [List.getElem?_toArray, List.getElem?_cons_zero, List.getElem?_cons_succ] at c0 c1 c2 c3 c4 c5 c6 c7 c8 c9 c10
      go_wp2_with fail
      obtain ⟨hRz, hOz⟩ := set11 hRd (.int .i64 ((a1.1 : Nat))) (.int .i64 ((a2.1 : Nat))) (.int .i64 ((a3.1 : Nat))) (.string (bs a4.1)) (.int .u64 (a5.1 : Int)) (.int .i64 ((a6.1 : Nat))) (.int .u32 ((a7.1 : Int) % 4294967296)) (.slice dao a8.1.length dcap) (.int .i64 ((a9.1 : Nat))) (.int .i64 ((b1.1 : Nat))) (.int .i64 ((b2.1 : Nat)))
      generalize (((((((((((wd.setCell ⟨W.heap.size, 0, none⟩ (.int .i64 ((a1.1 : Nat)))).setCell ⟨W.heap.size, 1, none⟩ (.int .i64 ((a2.1 : Nat)))).setCell ⟨W.heap.size, 2, none⟩ (.int .i64 ((a3.1 : Nat)))).setCell ⟨W.heap.size, 3, none⟩ (.string (bs a4.1))).setCell ⟨W.heap.size, 4, none⟩ (.int .u64 (a5.1 : Int))).setCell ⟨W.heap.size, 5, none⟩ (.int .i64 ((a6.1 : Nat)))).setCell ⟨W.heap.size, 6, none⟩ (.int .u32 ((a7.1 : Int) % 4294967296))).setCell ⟨W.heap.size, 7, none⟩ (.slice dao a8.1.length dcap)).setCell ⟨W.heap.size, 8, none⟩ (.int .i64 ((a9.1 : Nat)))).setCell ⟨W.heap.size, 9, none⟩ (.int .i64 ((b1.1 : Nat)))).setCell ⟨W.heap.size, 10, none⟩ (.int .i64 ((b2.1 : Nat)))) = wz at *
      have z0 := hRz.cell 0
      have z1 := hRz.cell 1
      have z2 := hRz.cell 2
      have z3 := hRz.cell 3
      have z4 := hRz.cell 4
      have z5 := hRz.cell 5
      have z6 := hRz.cell 6
      have z7 := hRz.cell 7
      have z8 := hRz.cell 8
      have z9 := hRz.cell 9
      have z10 := hRz.cell 10
      simp only [List.getElem?_toArray, List.getElem?_cons_zero, List.getElem?_cons_succ] at z0 z1 z2 z3 z4 z5 z6 z7 z8 z9 z10
      refine bodyPost_ret (v := .tuple #[.agg #[.int .i64 ((a1.1 : Nat)), .int .i64 ((a2.1 : Nat)), .int .i64 ((a3.1 : Nat)), .string (bs a4.1), .int .u64 (a5.1 : Int), .int .i64 ((a6.1 : Nat)), .int .u32 ((a7.1 : Int) % 4294967296), .slice dao a8.1.length dcap, .int .i64 ((a9.1 : Nat)), .int .i64 ((b1.1 : Nat)), .int .i64 ((b2.1 : Nat))], .int .i64 (0)]) (by simp [results, Try.results12, go_sem, z0, z1, z2, z3, z4, z5, z6, z7, z8, z9, z10]) rfl ?_
      refine ⟨below_one hBd hOz (Nat.le_refl _), t, hOf, fun h => absurd Her.out.symm h, fun _ => ⟨dao, dcap, by rw [hcells], ?_⟩⟩
      have hownz := own_keep hownd hOz (fun g hg e => by have := own_ge hownd g hg; omega)
      have := Sl.of_own hownz
      rw [hdl, hdv]
      exact this
    · have h1 : (er == 0) = false := by simpa using h0
      have h2 : (er != 0) = true := by simpa using h0
      go_wp2_with fail
      obtain ⟨hRz, hOz⟩ := set11 hRd (.int .i64 (0)) (.int .i64 (0)) (.int .i64 (0)) (.string ⟨#[]⟩) (.int .u64 0) (.int .i64 (0)) (.int .u32 0) (.slice none 0 0) (.int .i64 (0)) (.int .i64 (0)) (.int .i64 (0))
      generalize (((((((((((wd.setCell ⟨W.heap.size, 0, none⟩ (.int .i64 (0))).setCell ⟨W.heap.size, 1, none⟩ (.int .i64 (0))).setCell ⟨W.heap.size, 2, none⟩ (.int .i64 (0))).setCell ⟨W.heap.size, 3, none⟩ (.string ⟨#[]⟩)).setCell ⟨W.heap.size, 4, none⟩ (.int .u64 0)).setCell ⟨W.heap.size, 5, none⟩ (.int .i64 (0))).setCell ⟨W.heap.size, 6, none⟩ (.int .u32 0)).setCell ⟨W.heap.size, 7, none⟩ (.slice none 0 0)).setCell ⟨W.heap.size, 8, none⟩ (.int .i64 (0))).setCell ⟨W.heap.size, 9, none⟩ (.int .i64 (0))).setCell ⟨W.heap.size, 10, none⟩ (.int .i64 (0))) = wz at *
      have z0 := hRz.cell 0
      have z1 := hRz.cell 1
      have z2 := hRz.cell 2
      have z3 := hRz.cell 3
      have z4 := hRz.cell 4
      have z5 := hRz.cell 5
      have z6 := hRz.cell 6
      have z7 := hRz.cell 7
      have z8 := hRz.cell 8
      have z9 := hRz.cell 9
      have z10 := hRz.cell 10
      simp only [List.getElem?_toArray, List.getElem?_cons_zero, List.getElem?_cons_succ] at z0 z1 z2 z3 z4 z5 z6 z7 z8 z9 z10
      refine bodyPost_ret (v := .tuple #[.agg #[.int .i64 (0), .int .i64 (0), .int .i64 (0), .string ⟨#[]⟩, .int .u64 0, .int .i64 (0), .int .u32 0, .slice none 0 0, .int .i64 (0), .int .i64 (0), .int .i64 (0)], .int .i64 (er)]) (by simp [results, Try.results12, go_sem, z0, z1, z2, z3, z4, z5, z6, z7, z8, z9, z10]) rfl ?_
      rw [Her.out] at h0 ⊢
      exact ⟨below_one hBd hOz (Nat.le_refl _), t, hOf, fun _ => rfl, fun h => absurd h h0⟩
  · have hsh : (a7.1 : Int) / 4294967296 = 0 := by omega
    have hG := cmd_Good t.cmd hWf hnl (by omega) dao dcap _ (by rw [hdl, hdv]; exact hsl)
    rw [hcells] at hG
    obtain ⟨gd, hgd⟩ : ∃ g, g = t.cmd.good := ⟨_, rfl⟩
    rw [← hgd] at hG
    have HG := Lib.hid hG
    have Hgd := Lib.hid hgd
    clear hG hgd
    have kc0 := hC.cell 0
    have kc1 := hC.cell 1
    have kc2 := hC.cell 2
    have kc3 := hC.cell 3
    have kc4 := hC.cell 4
    have kc5 := hC.cell 5
    have kc6 := hC.cell 6
    have kc7 := hC.cell 7
    have kc8 := hC.cell 8
    have kc9 := hC.cell 9
    have kc10 := hC.cell 10
    simp only [List.getElem?_toArray, List.getElem?_cons_zero, List.getElem?_cons_succ] at kc0 kc1 kc2 kc3 kc4 kc5 kc6 kc7 kc8 kc9 kc10
    go_wp2_with fail
    refine HG.out.mono ?_; rintro e wg ⟨rfl, hBg⟩
    clear kc0 kc1 kc2 kc3 kc4 kc5 kc6 kc7 kc8 kc9 kc10 HG
    have hCg := hC.keep (only_of_below hBg (fun _ => False)) (fun e => e)
    have hRg := hR.keep (only_of_below hBg (fun _ => False)) (fun e => e)
    have hDg := hD.keep (only_of_below hBg (fun _ => False)) (fun e => e)
    have hB2 := hB.trans (hBg.mono hB.size)
    have hown2 := own_keep hown (only_of_below hBg (fun _ => False)) (fun _ _ e => e)
    clear hC hR hD hB hown hBg hsl
    cases gd with
    | false =>
      obtain ⟨kk, hkk⟩ : ∃ kk, kk = if b2.2.2 = 0 then 3 else b2.2.2 := ⟨_, rfl⟩
      have he : Hid (t.err = Wire.decD b2.2.1 kk) := Lib.hid (by rw [hgood.out, hkk, ← Hgd.out]; simp)
      have HF := Lib.hid (dec_fail_to _ 3 b2.2.2 kk (Lib.hid hkk) _ _ hDg)
      clear hkk
      go_wp2_with fail
      refine HF.out.mono ?_; rintro e wf ⟨rfl, hDf, hOf2⟩
      have hCf := hCg.keep hOf2 (by omega)
      have hRf := hRg.keep hOf2 (by omega)
      have hBf := below_one hB2 hOf2 (by omega)
      have hownf := own_keep hown2 hOf2 (fun g hg e => by have := own_ge hown2 g hg; omega)
      clear hCg hRg hDg hB2 hown2 hOf2 HF
      have HDn := dec_Done b2.2.1 kk _ wf hDf
      rw [← he.out] at HDn
      have HDn := Lib.hid HDn
      obtain ⟨er, her⟩ : ∃ er, er = t.err := ⟨_, rfl⟩
      rw [← her] at HDn
      have Her := Lib.hid her
      clear her he hDf hgood
      go_wp2_with fail
      refine HDn.out.mono ?_; rintro e wd ⟨rfl, hDd, hOd⟩
      have hRd := hRf.keep hOd (by omega)
      have hCd := hCf.keep hOd (by omega)
      have hBd := below_one hBf hOd (by omega)
      have hownd := own_keep hownf hOd (fun g hg e => by have := own_ge hownf g hg; omega)
      clear hRf hCf hBf hownf HDn
      have r0 := hRd.cell 0
      have r1 := hRd.cell 1
      have r2 := hRd.cell 2
      have r3 := hRd.cell 3
      have r4 := hRd.cell 4
      have r5 := hRd.cell 5
      have r6 := hRd.cell 6
      have r7 := hRd.cell 7
      have r8 := hRd.cell 8
      have r9 := hRd.cell 9
      have r10 := hRd.cell 10
      simp only [List.getElem?_toArray, List.getElem?_cons_zero, List.getElem?_cons_succ] at r0 r1 r2 r3 r4 r5 r6 r7 r8 r9 r10
      have fR := hRd.frozen
      by_cases h0 : er = 0
      · subst h0
        have c0 := hCd.cell 0
        have c1 := hCd.cell 1
        have c2 := hCd.cell 2
        have c3 := hCd.cell 3
        have c4 := hCd.cell 4
        have c5 := hCd.cell 5
        have c6 := hCd.cell 6
        have c7 := hCd.cell 7
        have c8 := hCd.cell 8
        have c9 := hCd.cell 9
        have c10 := hCd.cell 10
        simp only [List.getElem?_toArray, List.getElem?_cons_zero, List.getElem?_cons_succ] at c0 c1 c2 c3 c4 c5 c6 c7 c8 c9 c10
        go_wp2_with fail
        obtain ⟨hRz, hOz⟩ := set11 hRd (.int .i64 ((a1.1 : Nat))) (.int .i64 ((a2.1 : Nat))) (.int .i64 ((a3.1 : Nat))) (.string (bs a4.1)) (.int .u64 (a5.1 : Int)) (.int .i64 ((a6.1 : Nat))) (.int .u32 ((a7.1 : Int) % 4294967296)) (.slice dao a8.1.length dcap) (.int .i64 ((a9.1 : Nat))) (.int .i64 ((b1.1 : Nat))) (.int .i64 ((b2.1 : Nat)))
        generalize (((((((((((wd.setCell ⟨W.heap.size, 0, none⟩ (.int .i64 ((a1.1 : Nat)))).setCell ⟨W.heap.size, 1, none⟩ (.int .i64 ((a2.1 : Nat)))).setCell ⟨W.heap.size, 2, none⟩ (.int .i64 ((a3.1 : Nat)))).setCell ⟨W.heap.size, 3, none⟩ (.string (bs a4.1))).setCell ⟨W.heap.size, 4, none⟩ (.int .u64 (a5.1 : Int))).setCell ⟨W.heap.size, 5, none⟩ (.int .i64 ((a6.1 : Nat)))).setCell ⟨W.heap.size, 6, none⟩ (.int .u32 ((a7.1 : Int) % 4294967296))).setCell ⟨W.heap.size, 7, none⟩ (.slice dao a8.1.length dcap)).setCell ⟨W.heap.size, 8, none⟩ (.int .i64 ((a9.1 : Nat)))).setCell ⟨W.heap.size, 9, none⟩ (.int .i64 ((b1.1 : Nat)))).setCell ⟨W.heap.size, 10, none⟩ (.int .i64 ((b2.1 : Nat)))) = wz at *
        have z0 := hRz.cell 0
        have z1 := hRz.cell 1
        have z2 := hRz.cell 2
        have z3 := hRz.cell 3
        have z4 := hRz.cell 4
        have z5 := hRz.cell 5
        have z6 := hRz.cell 6
        have z7 := hRz.cell 7
        have z8 := hRz.cell 8
        have z9 := hRz.cell 9
        have z10 := hRz.cell 10
        simp only [List.getElem?_toArray, List.getElem?_cons_zero, List.getElem?_cons_succ] at z0 z1 z2 z3 z4 z5 z6 z7 z8 z9 z10
        refine bodyPost_ret (v := .tuple #[.agg #[.int .i64 ((a1.1 : Nat)), .int .i64 ((a2.1 : Nat)), .int .i64 ((a3.1 : Nat)), .string (bs a4.1), .int .u64 (a5.1 : Int), .int .i64 ((a6.1 : Nat)), .int .u32 ((a7.1 : Int) % 4294967296), .slice dao a8.1.length dcap, .int .i64 ((a9.1 : Nat)), .int .i64 ((b1.1 : Nat)), .int .i64 ((b2.1 : Nat))], .int .i64 (0)]) (by simp [results, Try.results12, go_sem, z0, z1, z2, z3, z4, z5, z6, z7, z8, z9, z10]) rfl ?_
        refine ⟨below_one hBd hOz (Nat.le_refl _), t, hOf, fun h => absurd Her.out.symm h, fun _ => ⟨dao, dcap, by rw [hcells], ?_⟩⟩
        have hownz := own_keep hownd hOz (fun g hg e => by have := own_ge hownd g hg; omega)
        have := Sl.of_own hownz
        rw [hdl, hdv]
        exact this
      · have h1 : (er == 0) = false := by simpa using h0
        have h2 : (er != 0) = true := by simpa using h0
        go_wp2_with fail
        obtain ⟨hRz, hOz⟩ := set11 hRd (.int .i64 (0)) (.int .i64 (0)) (.int .i64 (0)) (.string ⟨#[]⟩) (.int .u64 0) (.int .i64 (0)) (.int .u32 0) (.slice none 0 0) (.int .i64 (0)) (.int .i64 (0)) (.int .i64 (0))
        generalize (((((((((((wd.setCell ⟨W.heap.size, 0, none⟩ (.int .i64 (0))).setCell ⟨W.heap.size, 1, none⟩ (.int .i64 (0))).setCell ⟨W.heap.size, 2, none⟩ (.int .i64 (0))).setCell ⟨W.heap.size, 3, none⟩ (.string ⟨#[]⟩)).setCell ⟨W.heap.size, 4, none⟩ (.int .u64 0)).setCell ⟨W.heap.size, 5, none⟩ (.int .i64 (0))).setCell ⟨W.heap.size, 6, none⟩ (.int .u32 0)).setCell ⟨W.heap.size, 7, none⟩ (.slice none 0 0)).setCell ⟨W.heap.size, 8, none⟩ (.int .i64 (0))).setCell ⟨W.heap.size, 9, none⟩ (.int .i64 (0))).setCell ⟨W.heap.size, 10, none⟩ (.int .i64 (0))) = wz at *
        have z0 := hRz.cell 0
        have z1 := hRz.cell 1
        have z2 := hRz.cell 2
        have z3 := hRz.cell 3
        have z4 := hRz.cell 4
        have z5 := hRz.cell 5
        have z6 := hRz.cell 6
        have z7 := hRz.cell 7
        have z8 := hRz.cell 8
        have z9 := hRz.cell 9
        have z10 := hRz.cell 10
        simp only [List.getElem?_toArray, List.getElem?_cons_zero, List.getElem?_cons_succ] at z0 z1 z2 z3 z4 z5 z6 z7 z8 z9 z10
        refine bodyPost_ret (v := .tuple #[.agg #[.int .i64 (0), .int .i64 (0), .int .i64 (0), .string ⟨#[]⟩, .int .u64 0, .int .i64 (0), .int .u32 0, .slice none 0 0, .int .i64 (0), .int .i64 (0), .int .i64 (0)], .int .i64 (er)]) (by simp [results, Try.results12, go_sem, z0, z1, z2, z3, z4, z5, z6, z7, z8, z9, z10]) rfl ?_
        rw [Her.out] at h0 ⊢
        exact ⟨below_one hBd hOz (Nat.le_refl _), t, hOf, fun _ => rfl, fun h => absurd h h0⟩
    | true =>
      have he : Hid (t.err = Wire.decD b2.2.1 b2.2.2) := Lib.hid (by rw [hgood.out, ← Hgd.out, if_neg (by simp; omega)])
      generalize wg = wf at *
      have hDf := hDg
      have hCf := hCg
      have hRf := hRg
      have hBf := hB2
      have hownf := hown2
      clear hCg hRg hDg hB2 hown2
      generalize b2.2.2 = kk at hDf he
      have HDn := dec_Done b2.2.1 kk _ wf hDf
      rw [← he.out] at HDn
      have HDn := Lib.hid HDn
      obtain ⟨er, her⟩ : ∃ er, er = t.err := ⟨_, rfl⟩
      rw [← her] at HDn
      have Her := Lib.hid her
      clear her he hDf hgood
      go_wp2_with fail
      refine HDn.out.mono ?_; rintro e wd ⟨rfl, hDd, hOd⟩
      have hRd := hRf.keep hOd (by omega)
      have hCd := hCf.keep hOd (by omega)
      have hBd := below_one hBf hOd (by omega)
      have hownd := own_keep hownf hOd (fun g hg e => by have := own_ge hownf g hg; omega)
      clear hRf hCf hBf hownf HDn
      have r0 := hRd.cell 0
      have r1 := hRd.cell 1
      have r2 := hRd.cell 2
      have r3 := hRd.cell 3
      have r4 := hRd.cell 4
      have r5 := hRd.cell 5
      have r6 := hRd.cell 6
      have r7 := hRd.cell 7
      have r8 := hRd.cell 8
      have r9 := hRd.cell 9
      have r10 := hRd.cell 10
      simp only [List.getElem?_toArray, List.getElem?_cons_zero, List.getElem?_cons_succ] at r0 r1 r2 r3 r4 r5 r6 r7 r8 r9 r10
      have fR := hRd.frozen
      by_cases h0 : er = 0
      · subst h0
        have c0 := hCd.cell 0
        have c1 := hCd.cell 1
        have c2 := hCd.cell 2
        have c3 := hCd.cell 3
        have c4 := hCd.cell 4
        have c5 := hCd.cell 5
        have c6 := hCd.cell 6
        have c7 := hCd.cell 7
        have c8 := hCd.cell 8
        have c9 := hCd.cell 9
        have c10 := hCd.cell 10
        simp only [List.getElem?_toArray, List.getElem?_cons_zero, List.getElem?_cons_succ] at c0 c1 c2 c3 c4 c5 c6 c7 c8 c9 c10
        go_wp2_with fail
        obtain ⟨hRz, hOz⟩ := set11 hRd (.int .i64 ((a1.1 : Nat))) (.int .i64 ((a2.1 : Nat))) (.int .i64 ((a3.1 : Nat))) (.string (bs a4.1)) (.int .u64 (a5.1 : Int)) (.int .i64 ((a6.1 : Nat))) (.int .u32 ((a7.1 : Int) % 4294967296)) (.slice dao a8.1.length dcap) (.int .i64 ((a9.1 : Nat))) (.int .i64 ((b1.1 : Nat))) (.int .i64 ((b2.1 : Nat)))
        generalize (((((((((((wd.setCell ⟨W.heap.size, 0, none⟩ (.int .i64 ((a1.1 : Nat)))).setCell ⟨W.heap.size, 1, none⟩ (.int .i64 ((a2.1 : Nat)))).setCell ⟨W.heap.size, 2, none⟩ (.int .i64 ((a3.1 : Nat)))).setCell ⟨W.heap.size, 3, none⟩ (.string (bs a4.1))).setCell ⟨W.heap.size, 4, none⟩ (.int .u64 (a5.1 : Int))).setCell ⟨W.heap.size, 5, none⟩ (.int .i64 ((a6.1 : Nat)))).setCell ⟨W.heap.size, 6, none⟩ (.int .u32 ((a7.1 : Int) % 4294967296))).setCell ⟨W.heap.size, 7, none⟩ (.slice dao a8.1.length dcap)).setCell ⟨W.heap.size, 8, none⟩ (.int .i64 ((a9.1 : Nat)))).setCell ⟨W.heap.size, 9, none⟩ (.int .i64 ((b1.1 : Nat)))).setCell ⟨W.heap.size, 10, none⟩ (.int .i64 ((b2.1 : Nat)))) = wz at *
        have z0 := hRz.cell 0
        have z1 := hRz.cell 1
        have z2 := hRz.cell 2
        have z3 := hRz.cell 3
        have z4 := hRz.cell 4
        have z5 := hRz.cell 5
        have z6 := hRz.cell 6
        have z7 := hRz.cell 7
        have z8 := hRz.cell 8
        have z9 := hRz.cell 9
        have z10 := hRz.cell 10
        simp only [List.getElem?_toArray, List.getElem?_cons_zero, List.getElem?_cons_succ] at z0 z1 z2 z3 z4 z5 z6 z7 z8 z9 z10
        refine bodyPost_ret (v := .tuple #[.agg #[.int .i64 ((a1.1 : Nat)), .int .i64 ((a2.1 : Nat)), .int .i64 ((a3.1 : Nat)), .string (bs a4.1), .int .u64 (a5.1 : Int), .int .i64 ((a6.1 : Nat)), .int .u32 ((a7.1 : Int) % 4294967296), .slice dao a8.1.length dcap, .int .i64 ((a9.1 : Nat)), .int .i64 ((b1.1 : Nat)), .int .i64 ((b2.1 : Nat))], .int .i64 (0)]) (by simp [results, Try.results12, go_sem, z0, z1, z2, z3, z4, z5, z6, z7, z8, z9, z10]) rfl ?_
        refine ⟨below_one hBd hOz (Nat.le_refl _), t, hOf, fun h => absurd Her.out.symm h, fun _ => ⟨dao, dcap, by rw [hcells], ?_⟩⟩
        have hownz := own_keep hownd hOz (fun g hg e => by have := own_ge hownd g hg; omega)
        have := Sl.of_own hownz
        rw [hdl, hdv]
        exact this
      · have h1 : (er == 0) = false := by simpa using h0
        have h2 : (er != 0) = true := by simpa using h0
        go_wp2_with fail
        obtain ⟨hRz, hOz⟩ := set11 hRd (.int .i64 (0)) (.int .i64 (0)) (.int .i64 (0)) (.string ⟨#[]⟩) (.int .u64 0) (.int .i64 (0)) (.int .u32 0) (.slice none 0 0) (.int .i64 (0)) (.int .i64 (0)) (.int .i64 (0))
        generalize (((((((((((wd.setCell ⟨W.heap.size, 0, none⟩ (.int .i64 (0))).setCell ⟨W.heap.size, 1, none⟩ (.int .i64 (0))).setCell ⟨W.heap.size, 2, none⟩ (.int .i64 (0))).setCell ⟨W.heap.size, 3, none⟩ (.string ⟨#[]⟩)).setCell ⟨W.heap.size, 4, none⟩ (.int .u64 0)).setCell ⟨W.heap.size, 5, none⟩ (.int .i64 (0))).setCell ⟨W.heap.size, 6, none⟩ (.int .u32 0)).setCell ⟨W.heap.size, 7, none⟩ (.slice none 0 0)).setCell ⟨W.heap.size, 8, none⟩ (.int .i64 (0))).setCell ⟨W.heap.size, 9, none⟩ (.int .i64 (0))).setCell ⟨W.heap.size, 10, none⟩ (.int .i64 (0))) = wz at *
        have z0 := hRz.cell 0
        have z1 := hRz.cell 1
        have z2 := hRz.cell 2
        have z3 := hRz.cell 3
        have z4 := hRz.cell 4
        have z5 := hRz.cell 5
        have z6 := hRz.cell 6
        have z7 := hRz.cell 7
        have z8 := hRz.cell 8
        have z9 := hRz.cell 9
        have z10 := hRz.cell 10
        simp only [List.getElem?_toArray, List.getElem?_cons_zero, List.getElem?_cons_succ] at z0 z1 z2 z3 z4 z5 z6 z7 z8 z9 z10
        refine bodyPost_ret (v := .tuple #[.agg #[.int .i64 (0), .int .i64 (0), .int .i64 (0), .string ⟨#[]⟩, .int .u64 0, .int .i64 (0), .int .u32 0, .slice none 0 0, .int .i64 (0), .int .i64 (0), .int .i64 (0)], .int .i64 (er)]) (by simp [results, Try.results12, go_sem, z0, z1, z2, z3, z4, z5, z6, z7, z8, z9, z10]) rfl ?_
        rw [Her.out] at h0 ⊢
        exact ⟨below_one hBd hOz (Nat.le_refl _), t, hOf, fun _ => rfl, fun h => absurd h h0⟩
end Go.Proofs.Ytafdnalanmbcpaa
