/- IsClient; the law package's 'awake' of command. No condition. -/
import Derived.Test.YtafdnalanmbcpaaCmdR
import Derived.Test.YtafdnalanmbcpaaCmdD
set_option linter.unusedSimpArgs false
set_option linter.unusedVariables false
namespace Go.Proofs.Ytafdnalanmbcpaa
open Go.RowKit
set_option maxHeartbeats 4000000
set_option maxRecDepth 100000

theorem cmd_num_small (n : Nat) (h : n < 128) : Wire.num n = [UInt8.ofNat n] := by
  unfold Wire.num
  rw [Wire.grp, if_pos h]
  show [UInt8.ofNat (n % 128)] = _
  rw [Nat.mod_eq_of_lt h]
theorem cmd_IsClient1 (c : Cmd) (hk : c.kind = 1) (dao : Option Addr) (dcap : Nat) (W : World) : Calls Try.prog 16 #[.agg (c.cells dao dcap)] W (Fresh (.bool true) W) := by
  obtain ⟨kind, client, seq, name, blob, size, sum, disks, pool, vol, blk⟩ := c
  simp only at hk
  subst hk
  unfold Cmd.cells
  simp only
  (go_enter Try.func16, Try.ntmps16)
  go_wp2_with fail
  go_ret
  exact ⟨rfl, (by repeat' (first | exact Below.refl _ _ | assumption | refine Below.setCell ?_ (by first | omega | (simp; done) | (simp; omega)) _ | refine Below.alloc ?_ (by first | omega | (simp; done) | (simp; omega)) _ | refine below_drew ?_ _ | apply Below.drew))⟩
/-- the command of 'awake' -/
def Cmd.aw : Cmd := ⟨1, 1, 1, [97], 7, 1, 0, [0, 2], 0, 0, 0⟩
theorem Cmd.aw_bytes : Cmd.aw.bytes = [1, 1, 1, 1, 97, 7, 1, 0, 2, 0, 2, 0, 0, 0] := by
  simp [Cmd.aw, Cmd.bytes, cmd_num_small]
theorem Cmd.aw_sound : Cmd.aw.Sound := ⟨by decide, by decide, by decide⟩
theorem Cmd.aw_wf : Cmd.aw.Wf := ⟨by decide, by decide, by decide, by decide, by decide, by decide, by decide, by decide, by decide, by decide⟩

theorem awake_any (W : World) : Calls Try.prog 10 #[] W (fun e w' => e = .returned (.bool true) ∧ Below W.heap.size W w') := by
  have hD := cmd_Disk [2, 0, 2, 9] (some ⟨W.heap.size, 0, none⟩) 4 (W.alloc (.cells #[.int .i64 (2), .int .i64 (0), .int .i64 (2), .int .i64 (9)] 3)) (Sl.lit (cs := i64v [2, 0, 2, 9]) (Blk.new _ _ _) (by show 4 ≤ maxLen; decide) rfl)
  rw [show Cmd.diskTo [2, 0, 2, 9] 6 = [0, 2] by decide] at hD
  have HD := Lib.hid hD
  have hB0 : Below W.heap.size W (W.alloc (.cells #[.int .i64 (2), .int .i64 (0), .int .i64 (2), .int .i64 (9)] 3)) := (by repeat' (first | exact Below.refl _ _ | assumption | refine Below.setCell ?_ (by first | omega | (simp; done) | (simp; omega)) _ | refine Below.alloc ?_ (by first | omega | (simp; done) | (simp; omega)) _ | refine below_drew ?_ _ | apply Below.drew))
  clear hD
  (go_enter Try.func10, Try.ntmps10)
  go_wp2_with fail
  refine HD.out.mono ?_; rintro e w1 ⟨v, rfl, hown, hB⟩
  obtain ⟨dao, dcap, rfl, _, _, _, _⟩ := Sl.of_own hown
  have hB1 := hB0.trans (hB.mono hB0.size)
  clear hB hB0 HD
  have hb2 := Blk.new w1 (Cmd.aw.cells dao dcap) 26
  have hB2 := hB1.alloc hB1.size (.cells (Cmd.aw.cells dao dcap) 26)
  have hsl2 : Sl (w1.alloc (.cells (Cmd.aw.cells dao dcap) 26)) (.slice dao Cmd.aw.disks.length dcap) Cmd.aw.disks.length 1 (i64v Cmd.aw.disks) := (Sl.of_own hown).below ((Below.refl _ _).alloc (Nat.le_refl _) _)
  have hW := cmd_Write Cmd.aw Cmd.aw_wf (by decide) (by decide) dao dcap _ hsl2
  rw [Cmd.aw_bytes] at hW
  have HW := Lib.hid hW
  have hc := fun k => hb2.cell k
  unfold Cmd.cells Cmd.aw at hb2
  have HSL := Lib.hid hsl2
  have c0 := hb2.cell 0
  simp only [List.getElem?_toArray, List.getElem?_cons_zero, List.getElem?_cons_succ] at c0
  clear hc hW hsl2
  unfold Cmd.cells Cmd.aw at HW hB2 HSL
  go_wp2_with fail
  refine HW.out.mono ?_; rintro e w2 ⟨rfl, hB⟩
  have hB3 := hB2.trans (hB.mono hB2.size)
  have hb3 := hb2.keep (only_of_below hB (fun _ => False)) (fun e => e)
  have hsl3 := HSL.out.below hB
  clear hB HW hB1 hB2 hb2 c0 HSL
  have hR := cmd_Read [1, 1, 1, 1, 97, 7, 1, 0, 2, 0, 2, 0, 0, 0] (by decide) w2
  have HR := Lib.hid hR
  clear hR
  go_wp2_with fail
  refine HR.out.mono ?_; rintro e w3 ⟨hB, t, hOf, _, ht⟩
  obtain ⟨e1, e2⟩ := Cmd.Taken.back Cmd.aw_sound (Cmd.aw_bytes ▸ hOf)
  rw [e1] at ht
  obtain ⟨dao2, dcap2, rfl, _⟩ := ht e2
  clear ht e1 e2 hOf HR
  have hB4 := hB3.trans (hB.mono hB3.size)
  have hb4 := hb3.keep (only_of_below hB (fun _ => False)) (fun e => e)
  have hsl4 := hsl3.below hB
  clear hB hB3 hb3 hsl3
  unfold Cmd.cells Cmd.aw
  simp only
  have hb5 := hb4.alloc (.cells #[.int .i64 (1), .int .i64 (1), .int .i64 (1), .string (bs [97]), .int .u64 7, .int .i64 (1), .int .u32 0, .slice dao2 2 dcap2, .int .i64 (0), .int .i64 (0), .int .i64 (0)] 26)
  have hd5 := Blk.new w3 #[.int .i64 (1), .int .i64 (1), .int .i64 (1), .string (bs [97]), .int .u64 7, .int .i64 (1), .int .u32 0, .slice dao2 2 dcap2, .int .i64 (0), .int .i64 (0), .int .i64 (0)] 26
  have hB5 := hB4.alloc hB4.size (.cells #[.int .i64 (1), .int .i64 (1), .int .i64 (1), .string (bs [97]), .int .u64 7, .int .i64 (1), .int .u32 0, .slice dao2 2 dcap2, .int .i64 (0), .int .i64 (0), .int .i64 (0)] 26)
  have hsl5 := hsl4.below ((Below.refl _ w3).alloc (Nat.le_refl _) (.cells #[.int .i64 (1), .int .i64 (1), .int .i64 (1), .string (bs [97]), .int .u64 7, .int .i64 (1), .int .u32 0, .slice dao2 2 dcap2, .int .i64 (0), .int .i64 (0), .int .i64 (0)] 26))
  have hG := cmd_Good Cmd.aw Cmd.aw_wf (by decide) (by decide) dao dcap _ hsl5
  rw [show Cmd.aw.good = true by decide] at hG
  have HG := Lib.hid hG
  have HI := Lib.hid (fun wx => cmd_IsClient1 Cmd.aw rfl dao dcap wx)
  have c0 := hb5.cell 0
  have c1 := hb5.cell 1
  have c2 := hb5.cell 2
  have c3 := hb5.cell 3
  have c4 := hb5.cell 4
  have c5 := hb5.cell 5
  have c6 := hb5.cell 6
  have c7 := hb5.cell 7
  have c8 := hb5.cell 8
  have c9 := hb5.cell 9
  have c10 := hb5.cell 10
  have d3 := hd5.cell 3
  simp only [List.getElem?_toArray, List.getElem?_cons_zero, List.getElem?_cons_succ] at c0 c1 c2 c3 c4 c5 c6 c7 c8 c9 c10 d3
  clear hG hsl4 hsl5
  unfold Cmd.cells Cmd.aw at HG HI
  go_wp2_with fail
  refine HG.out.mono ?_; rintro e w6 ⟨rfl, hB⟩
  have hB6 := hB5.trans (hB.mono hB5.size)
  have hb6 := hb5.keep (only_of_below hB (fun _ => False)) (fun e => e)
  clear c0 c1 c2 c3 c4 c5 c6 c7 c8 c9 c10 d3 hb5 hd5 hB5 HG hB hB4 hb4
  have c0 := hb6.cell 0
  have c1 := hb6.cell 1
  have c2 := hb6.cell 2
  have c3 := hb6.cell 3
  have c4 := hb6.cell 4
  have c5 := hb6.cell 5
  have c6 := hb6.cell 6
  have c7 := hb6.cell 7
  have c8 := hb6.cell 8
  have c9 := hb6.cell 9
  have c10 := hb6.cell 10
  simp only [List.getElem?_toArray, List.getElem?_cons_zero, List.getElem?_cons_succ] at c0 c1 c2 c3 c4 c5 c6 c7 c8 c9 c10
  go_wp2_with fail
  refine (HI.out _).mono ?_; rintro e w7 ⟨rfl, hB⟩
  go_wp2_with fail
  go_ret
  exact ⟨rfl, hB6.trans (hB.mono hB6.size)⟩
end Go.Proofs.Ytafdnalanmbcpaa
