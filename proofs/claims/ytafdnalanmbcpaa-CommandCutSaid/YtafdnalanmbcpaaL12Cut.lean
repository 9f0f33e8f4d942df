/- Bytes of a command that are cut off, or go on, are none: the statement CommandCut holds of all arguments. No condition. -/
import Derived.Test.YtafdnalanmbcpaaL12Arg
set_option linter.unusedSimpArgs false
set_option linter.unusedVariables false
namespace Go.Proofs.Ytafdnalanmbcpaa
open Go.RowKit
set_option maxHeartbeats 4000000
set_option maxRecDepth 100000

theorem CommandCut_walk (W : World) (v0 v1 v2 : Value) (x0 : KCmd.den) (w0 : KCmd.Arg W v0 x0) (x1 : (Kd.int .i64).den) (w1 : (Kd.int .i64).Arg W v1 x1) (x2 : Kd.str.den) (w2 : Kd.str.Arg W v2 x2) : Calls Try.prog 7 #[v0, v1, v2] W (Done W) := by
  obtain ⟨c, dao, dcap, rfl, hwf, hnm, hsl⟩ := cmd_arg w0
  obtain ⟨cut, rfl⟩ : ∃ c : Int, c = x1 := ⟨_, rfl⟩
  obtain ⟨more, rfl⟩ : ∃ s : ByteArray, s = x2 := ⟨_, rfl⟩
  obtain ⟨rfl, hcw⟩ := w1
  obtain ⟨rfl, hmore⟩ := w2
  obtain ⟨hc0, hc1⟩ := wf_i64 hcw
  clear w0
  obtain ⟨kind, client, seq, name, blob, size, sum, disks, pool, vol, blk⟩ := c
  obtain ⟨o1, o2, o3, o4, o5, o6, o7, o8, o9, o10⟩ := hwf
  simp only at o1 o2 o3 o4 o5 o6 o7 o8 o9 o10 hnm hsl
  unfold Cmd.cells
  simp only
  have hb := Blk.new W #[.int .i64 (kind), .int .i64 (client), .int .i64 (seq), .string (bs name), .int .u64 (blob : Int), .int .i64 (size), .int .u32 (sum : Int), .slice dao disks.length dcap, .int .i64 (pool), .int .i64 (vol), .int .i64 (blk)] 26
  have hB0 : Below W.heap.size W (W.alloc (.cells #[.int .i64 (kind), .int .i64 (client), .int .i64 (seq), .string (bs name), .int .u64 (blob : Int), .int .i64 (size), .int .u32 (sum : Int), .slice dao disks.length dcap, .int .i64 (pool), .int .i64 (vol), .int .i64 (blk)] 26)) := (by repeat' (first | exact Below.refl _ _ | assumption | refine Below.setCell ?_ (by first | omega | (simp; done) | (simp; omega)) _ | refine Below.alloc ?_ (by first | omega | (simp; done) | (simp; omega)) _ | refine below_drew ?_ _ | apply Below.drew))
  have HD := Lib.hid (cmd_Disk disks dao dcap _ (hsl.below hB0))
  have hc7 := hb.cell 7
  simp only [List.getElem?_toArray, List.getElem?_cons_zero, List.getElem?_cons_succ] at hc7
  (go_enter Try.func7, Try.ntmps7)
  go_wp2_with fail
  refine HD.out.mono ?_; rintro e w1 ⟨v, rfl, hown, hB⟩
  have hr6 := Cmd.rise_diskTo disks 6 (Nat.le_refl _)
  have hl6 := Cmd.diskTo_len disks 6
  have hm6 := Cmd.rise_mem _ _ hr6
  generalize Cmd.diskTo disks 6 = ds at *
  obtain ⟨eao, ecap, rfl, _, _, _, _⟩ := Sl.of_own hown
  have hb1 := hb.keep (only_of_below hB (fun _ => False)) (fun e => e)
  have hB1 := hB0.trans (hB.mono hB0.size)
  have hge := own_ge hown
  have hsz1 : (W.alloc (.cells #[.int .i64 (kind), .int .i64 (client), .int .i64 (seq), .string (bs name), .int .u64 (blob : Int), .int .i64 (size), .int .u32 (sum : Int), .slice dao disks.length dcap, .int .i64 (pool), .int .i64 (vol), .int .i64 (blk)] 26)).heap.size = W.heap.size + 1 := by simp
  rw [hsz1] at hge
  have hb2 : Blk (w1.setCell ⟨W.heap.size, 7, none⟩ (.slice eao ds.length ecap)) W.heap.size #[.int .i64 (kind), .int .i64 (client), .int .i64 (seq), .string (bs name), .int .u64 (blob : Int), .int .i64 (size), .int .u32 (sum : Int), .slice eao ds.length ecap, .int .i64 (pool), .int .i64 (vol), .int .i64 (blk)] 26 := by simpa using hb1.set 7 (.slice eao ds.length ecap)
  have hB2 := hB1.setCell (p := ⟨W.heap.size, 7, none⟩) (Nat.le_refl _) (.slice eao ds.length ecap)
  have hown2 := own_keep hown ((Only.refl (· = W.heap.size) w1).setCell ⟨W.heap.size, 7, none⟩ (.slice eao ds.length ecap) (fun _ => rfl)) (fun g hg e => by have := hge g hg; omega)
  have hsl2 := Sl.of_own hown2
  have hf1 := hb1.frozen 7
  have hc71 := hb1.cell 7
  simp only [List.getElem?_toArray, List.getElem?_cons_zero, List.getElem?_cons_succ] at hc71
  clear hb hc7 HD hB hown hown2 hb1 hB1 hB0 hsl
  have hWf : Cmd.Wf ⟨kind, client, seq, name, blob, size, sum, ds, pool, vol, blk⟩ := ⟨o1, o2, o3, o4, o5, o6, fun x hx => by have := hm6 x hx; omega, o8, o9, o10⟩
  have HG := Lib.hid (fun wx hx => cmd_Good ⟨kind, client, seq, name, blob, size, sum, ds, pool, vol, blk⟩ hWf (by unfold maxLen at hnm; omega) (by first | omega | (simp only; omega)) eao ecap wx hx)
  have HSd : Hid (Cmd.good ⟨kind, client, seq, name, blob, size, sum, ds, pool, vol, blk⟩ = true → Cmd.Sound ⟨kind, client, seq, name, blob, size, sum, ds, pool, vol, blk⟩) := Lib.hid (fun h => ⟨h, o4, o6⟩)
  have HWr := Lib.hid (fun hn wx hx => cmd_Write ⟨kind, client, seq, name, blob, size, sum, ds, pool, vol, blk⟩ hWf hn (by first | omega | (simp only; omega)) eao ecap wx hx)
  unfold Cmd.cells at HG HWr
  simp only at HG HWr
  clear hWf
  go_wp2_with fail
  refine (awake_any _).mono ?_; rintro e w3 ⟨rfl, hB⟩
  have hb3 := hb2.keep (only_of_below hB (fun _ => False)) (fun e => e)
  have hsl3 := hsl2.below hB
  have hB3 := hB2.trans (hB.mono hB2.size)
  clear hb2 hsl2 hB hB2 hf1 hc71
  have hc0x := hb3.cell 0
  have hc1x := hb3.cell 1
  have hc2x := hb3.cell 2
  have hc3x := hb3.cell 3
  have hc4x := hb3.cell 4
  have hc5x := hb3.cell 5
  have hc6x := hb3.cell 6
  have hc7x := hb3.cell 7
  have hc8x := hb3.cell 8
  have hc9x := hb3.cell 9
  have hc10x := hb3.cell 10
  simp only [List.getElem?_toArray, List.getElem?_cons_zero, List.getElem?_cons_succ] at hc0x hc1x hc2x hc3x hc4x hc5x hc6x hc7x hc8x hc9x hc10x
  obtain ⟨gd, hgd⟩ : ∃ g, g = Cmd.good ⟨kind, client, seq, name, blob, size, sum, ds, pool, vol, blk⟩ := ⟨_, rfl⟩
  have hGx := HG.out _ hsl3
  rw [← hgd] at hGx
  have HG3 := Lib.hid hGx
  have Hgd := Lib.hid hgd
  clear hGx hgd HG
  go_wp2_with fail
  refine HG3.out.mono ?_; rintro e w4 ⟨rfl, hB⟩
  clear hc0x hc1x hc2x hc3x hc4x hc5x hc6x hc7x hc8x hc9x hc10x
  have hb4 := hb3.keep (only_of_below hB (fun _ => False)) (fun e => e)
  have hsl4 := hsl3.below hB
  have hB4 := hB3.trans (hB.mono hB3.size)
  clear hb3 hsl3 hB hB3 HG3
  cases gd with
  | false =>
    go_wp2_with fail
    refine (awake_any _).mono ?_; rintro e w5 ⟨rfl, hB⟩
    go_wp2_with fail
    go_ret
    exact ⟨rfl, hB4.trans (hB.mono hB4.size)⟩
  | true =>
    have hS := HSd.out Hgd.out.symm
    have hnl := hS.name
    simp only at hnl
    have HW4 := HWr.out (by first | omega | (simp only; omega)) _ hsl4
    obtain ⟨B, hBy⟩ : ∃ B, B = Cmd.bytes ⟨kind, client, seq, name, blob, size, sum, ds, pool, vol, blk⟩ := ⟨_, rfl⟩
    rw [← hBy] at HW4
    have hBl : B.length ≤ 10000 := by rw [hBy]; exact hS.bytes_le
    have HBy := Lib.hid hBy
    have HS := Lib.hid hS
    have HW4 := Lib.hid HW4
    clear hBy hS HSd HWr Hgd
    have hc0x := hb4.cell 0
    have hc1x := hb4.cell 1
    have hc2x := hb4.cell 2
    have hc3x := hb4.cell 3
    have hc4x := hb4.cell 4
    have hc5x := hb4.cell 5
    have hc6x := hb4.cell 6
    have hc7x := hb4.cell 7
    have hc8x := hb4.cell 8
    have hc9x := hb4.cell 9
    have hc10x := hb4.cell 10
    simp only [List.getElem?_toArray, List.getElem?_cons_zero, List.getElem?_cons_succ] at hc0x hc1x hc2x hc3x hc4x hc5x hc6x hc7x hc8x hc9x hc10x
    go_wp2_with fail
    refine HW4.out.mono ?_; rintro e wr ⟨rfl, hB⟩
    clear hc0x hc1x hc2x hc3x hc4x hc5x hc6x hc7x hc8x hc9x hc10x
    have hBr := hB4.trans (hB.mono hB4.size)
    clear hb4 hsl4 hB hB4 HW4
    have hsz : (bs B).size = B.length := rfl
    by_cases hcr : 0 ≤ cut ∧ cut < B.length
    · obtain ⟨hcr0, hcr1⟩ := hcr
      obtain ⟨n, rfl⟩ := Int.eq_ofNat_of_zero_le hcr0
      have he : Hid ((bs B).extract 0 n = bs (B.take n)) := Lib.hid (by rw [extract_bs]; simp [bs_toList])
      have HR1 := Lib.hid (cmd_Read (B.take n) (by simp; omega) wr)
      go_wp2_with fail
      rw [he.out]
      refine HR1.out.mono ?_; rintro e w6 ⟨hB, t, hOf, hne, hok⟩
      have e2 := Cmd.Taken.cut HS.out n (by rw [← HBy.out]; omega) (by rw [← HBy.out]; exact hOf)
      have hr := hne (by rw [e2]; decide)
      rw [e2] at hr
      subst hr
      have hB6 := hBr.trans (hB.mono hBr.size)
      have hB7 := hB6.alloc hB6.size (.cells #[.int .i64 (0), .int .i64 (0), .int .i64 (0), .string ⟨#[]⟩, .int .u64 0, .int .i64 (0), .int .u32 0, .slice none 0 0, .int .i64 (0), .int .i64 (0), .int .i64 (0)] 26)
      clear hok hne hOf hB hBr HR1 e2 he hB6
      go_wp2_with fail
      generalize w6.alloc (.cells #[.int .i64 (0), .int .i64 (0), .int .i64 (0), .string ⟨#[]⟩, .int .u64 0, .int .i64 (0), .int .u32 0, .slice none 0 0, .int .i64 (0), .int .i64 (0), .int .i64 (0)] 26) = wr at *
      have hBr := hB7
      clear hB7
      by_cases hm : more.size = 0
      · have hm0 : more.data.toList = [] := List.eq_nil_of_length_eq_zero (by simpa using hm)
        have hme : more.toList.isEmpty = true := by rw [ByteArray.toList_eq, hm0]; rfl
        have HM := Lib.hid (law_Cut more (by unfold maxLen at hmore; omega) 20 (by omega) wr)
        have HMB : Hid (bs B ++ bs (more.data.toList.take 20) = bs B) := Lib.hid (by rw [hm0]; simp [bs_append])
        have hszm : (bs B).size + (bs (more.data.toList.take 20)).size ≤ 100000 := by rw [bs_size, bs_size]; simp; omega
        generalize bs (more.data.toList.take 20) = mx at *
        go_wp2_with fail
        refine HM.out.mono ?_; rintro e w8 ⟨rfl, rfl⟩
        have HR := Lib.hid (cmd_Read B (by omega) wr)
        go_wp2_with fail
        rw [HMB.out]
        refine HR.out.mono ?_; rintro e w9 ⟨hB, t, hOf, hne, hok⟩
        obtain ⟨e1, e2⟩ := Cmd.Taken.back HS.out (HBy.out ▸ hOf)
        obtain ⟨xao, xcap, rfl, _⟩ := hok e2
        have hB9 := hBr.trans (hB.mono hBr.size)
        clear hok hne hOf hB hBr HR
        unfold Cmd.cells
        generalize t.cmd = c2 at *
        go_wp2_with fail
        go_ret
        exact ⟨rfl, hB9.alloc hB9.size _⟩
      · have hm0 : more.data.toList ≠ [] := fun h => hm (by have := congrArg List.length h; simpa using this)
        have hm20 : more.data.toList.take 20 ≠ [] := by
          cases hmm : more.data.toList with
          | nil => exact absurd hmm hm0
          | cons a b => simp
        have hme : more.toList.isEmpty = false := by
          rw [ByteArray.toList_eq]
          cases hmm : more.data.toList with
          | nil => exact absurd hmm hm0
          | cons a b => rfl
        have HM := Lib.hid (law_Cut more (by unfold maxLen at hmore; omega) 20 (by omega) wr)
        have hl20 : (more.data.toList.take 20).length ≤ 20 := by simp; omega
        generalize more.data.toList.take 20 = ml at *
        have HMB : Hid (bs B ++ bs ml = bs (B ++ ml)) := Lib.hid (bs_append _ _)
        have hszm : (bs B).size + (bs ml).size ≤ 100000 := by rw [bs_size, bs_size]; omega
        have HR := Lib.hid (cmd_Read (B ++ ml) (by rw [List.length_append]; omega) wr)
        have HSz := Lib.hid hszm
        obtain ⟨mx, hmx⟩ : ∃ mx, mx = bs ml := ⟨_, rfl⟩
        rw [← hmx] at HM HMB hszm
        clear hmx
        go_wp2_with fail
        refine HM.out.mono ?_; rintro e w8 ⟨rfl, rfl⟩
        go_wp2_with fail
        rw [HMB.out]
        refine HR.out.mono ?_; rintro e w9 ⟨hB, t, hOf, hne, hok⟩
        have e2 := Cmd.Taken.more HS.out ml hm20 (HBy.out ▸ hOf)
        have hr := hne (by rw [e2]; decide)
        rw [e2] at hr
        subst hr
        have hB9 := hBr.trans (hB.mono hBr.size)
        clear hok hne hOf hB hBr HR e2
        go_wp2_with fail
        go_ret
        exact ⟨rfl, hB9.alloc hB9.size _⟩
    · have hcr2 : cut < 0 ∨ (B.length : Int) ≤ cut := by omega
      rcases hcr2 with hcr2 | hcr2
      ·
        by_cases hm : more.size = 0
        · have hm0 : more.data.toList = [] := List.eq_nil_of_length_eq_zero (by simpa using hm)
          have hme : more.toList.isEmpty = true := by rw [ByteArray.toList_eq, hm0]; rfl
          have HM := Lib.hid (law_Cut more (by unfold maxLen at hmore; omega) 20 (by omega) wr)
          have HMB : Hid (bs B ++ bs (more.data.toList.take 20) = bs B) := Lib.hid (by rw [hm0]; simp [bs_append])
          have hszm : (bs B).size + (bs (more.data.toList.take 20)).size ≤ 100000 := by rw [bs_size, bs_size]; simp; omega
          generalize bs (more.data.toList.take 20) = mx at *
          go_wp2_with fail
          refine HM.out.mono ?_; rintro e w8 ⟨rfl, rfl⟩
          have HR := Lib.hid (cmd_Read B (by omega) wr)
          go_wp2_with fail
          rw [HMB.out]
          refine HR.out.mono ?_; rintro e w9 ⟨hB, t, hOf, hne, hok⟩
          obtain ⟨e1, e2⟩ := Cmd.Taken.back HS.out (HBy.out ▸ hOf)
          obtain ⟨xao, xcap, rfl, _⟩ := hok e2
          have hB9 := hBr.trans (hB.mono hBr.size)
          clear hok hne hOf hB hBr HR
          unfold Cmd.cells
          generalize t.cmd = c2 at *
          go_wp2_with fail
          go_ret
          exact ⟨rfl, hB9.alloc hB9.size _⟩
        · have hm0 : more.data.toList ≠ [] := fun h => hm (by have := congrArg List.length h; simpa using this)
          have hm20 : more.data.toList.take 20 ≠ [] := by
            cases hmm : more.data.toList with
            | nil => exact absurd hmm hm0
            | cons a b => simp
          have hme : more.toList.isEmpty = false := by
            rw [ByteArray.toList_eq]
            cases hmm : more.data.toList with
            | nil => exact absurd hmm hm0
            | cons a b => rfl
          have HM := Lib.hid (law_Cut more (by unfold maxLen at hmore; omega) 20 (by omega) wr)
          have hl20 : (more.data.toList.take 20).length ≤ 20 := by simp; omega
          generalize more.data.toList.take 20 = ml at *
          have HMB : Hid (bs B ++ bs ml = bs (B ++ ml)) := Lib.hid (bs_append _ _)
          have hszm : (bs B).size + (bs ml).size ≤ 100000 := by rw [bs_size, bs_size]; omega
          have HR := Lib.hid (cmd_Read (B ++ ml) (by rw [List.length_append]; omega) wr)
          have HSz := Lib.hid hszm
          obtain ⟨mx, hmx⟩ : ∃ mx, mx = bs ml := ⟨_, rfl⟩
          rw [← hmx] at HM HMB hszm
          clear hmx
          go_wp2_with fail
          refine HM.out.mono ?_; rintro e w8 ⟨rfl, rfl⟩
          go_wp2_with fail
          rw [HMB.out]
          refine HR.out.mono ?_; rintro e w9 ⟨hB, t, hOf, hne, hok⟩
          have e2 := Cmd.Taken.more HS.out ml hm20 (HBy.out ▸ hOf)
          have hr := hne (by rw [e2]; decide)
          rw [e2] at hr
          subst hr
          have hB9 := hBr.trans (hB.mono hBr.size)
          clear hok hne hOf hB hBr HR e2
          go_wp2_with fail
          go_ret
          exact ⟨rfl, hB9.alloc hB9.size _⟩
      · have hcr3 : 0 ≤ cut := by omega
        by_cases hm : more.size = 0
        · have hm0 : more.data.toList = [] := List.eq_nil_of_length_eq_zero (by simpa using hm)
          have hme : more.toList.isEmpty = true := by rw [ByteArray.toList_eq, hm0]; rfl
          have HM := Lib.hid (law_Cut more (by unfold maxLen at hmore; omega) 20 (by omega) wr)
          have HMB : Hid (bs B ++ bs (more.data.toList.take 20) = bs B) := Lib.hid (by rw [hm0]; simp [bs_append])
          have hszm : (bs B).size + (bs (more.data.toList.take 20)).size ≤ 100000 := by rw [bs_size, bs_size]; simp; omega
          generalize bs (more.data.toList.take 20) = mx at *
          go_wp2_with fail
          refine HM.out.mono ?_; rintro e w8 ⟨rfl, rfl⟩
          have HR := Lib.hid (cmd_Read B (by omega) wr)
          go_wp2_with fail
          rw [HMB.out]
          refine HR.out.mono ?_; rintro e w9 ⟨hB, t, hOf, hne, hok⟩
          obtain ⟨e1, e2⟩ := Cmd.Taken.back HS.out (HBy.out ▸ hOf)
          obtain ⟨xao, xcap, rfl, _⟩ := hok e2
          have hB9 := hBr.trans (hB.mono hBr.size)
          clear hok hne hOf hB hBr HR
          unfold Cmd.cells
          generalize t.cmd = c2 at *
          go_wp2_with fail
          go_ret
          exact ⟨rfl, hB9.alloc hB9.size _⟩
        · have hm0 : more.data.toList ≠ [] := fun h => hm (by have := congrArg List.length h; simpa using this)
          have hm20 : more.data.toList.take 20 ≠ [] := by
            cases hmm : more.data.toList with
            | nil => exact absurd hmm hm0
            | cons a b => simp
          have hme : more.toList.isEmpty = false := by
            rw [ByteArray.toList_eq]
            cases hmm : more.data.toList with
            | nil => exact absurd hmm hm0
            | cons a b => rfl
          have HM := Lib.hid (law_Cut more (by unfold maxLen at hmore; omega) 20 (by omega) wr)
          have hl20 : (more.data.toList.take 20).length ≤ 20 := by simp; omega
          generalize more.data.toList.take 20 = ml at *
          have HMB : Hid (bs B ++ bs ml = bs (B ++ ml)) := Lib.hid (bs_append _ _)
          have hszm : (bs B).size + (bs ml).size ≤ 100000 := by rw [bs_size, bs_size]; omega
          have HR := Lib.hid (cmd_Read (B ++ ml) (by rw [List.length_append]; omega) wr)
          have HSz := Lib.hid hszm
          obtain ⟨mx, hmx⟩ : ∃ mx, mx = bs ml := ⟨_, rfl⟩
          rw [← hmx] at HM HMB hszm
          clear hmx
          go_wp2_with fail
          refine HM.out.mono ?_; rintro e w8 ⟨rfl, rfl⟩
          go_wp2_with fail
          rw [HMB.out]
          refine HR.out.mono ?_; rintro e w9 ⟨hB, t, hOf, hne, hok⟩
          have e2 := Cmd.Taken.more HS.out ml hm20 (HBy.out ▸ hOf)
          have hr := hne (by rw [e2]; decide)
          rw [e2] at hr
          subst hr
          have hB9 := hBr.trans (hB.mono hBr.size)
          clear hok hne hOf hB hBr HR e2
          go_wp2_with fail
          go_ret
          exact ⟨rfl, hB9.alloc hB9.size _⟩
namespace CommandCut
open Go.ChangeShapes Go.WideShapes Go.ChangeAt Go.RowKit
set_option linter.unusedVariables false
theorem own : ownKnob Try.prog.godebug = none := by kernel_rfl
theorem laidOut : laidOutB Try.prog = true := by kernel_rfl
set_option maxRecDepth 100000 in
theorem lifted (os : Os) (started : os.Started) (H : Type) (enc : TypeId × Value → H) :
    ReturnsInHanded {} Try.checked os 7 .any (Rows.commandCutSpec.pre6 enc Try.prog Try.f7 Rows.commandCutRow.domain false) (Rows.commandCutSpec.post enc Try.prog Try.f7 false true false false) := by
  refine returnsInHanded_of_change (C := Try.checked) own started (by kernel_rfl) Try.func7
    (ChangeSpec.witness6 (enc := enc) (C := Try.checked) false ⟨#[], #[.agg #[.int .i64 0, .int .i64 0, .int .i64 0, .string ⟨#[]⟩, .int .u64 0, .int .i64 0, .int .u32 0, .slice none 0 0, .int .i64 0, .int .i64 0, .int .i64 0], .int .i64 0, .string ⟨#[]⟩], []⟩ 8 (by kernel_rfl) (by kernel_rfl) (by kernel_rfl) (by kernel_rfl)) ?_
  intro W base args ds gs before hval0 hW hcnd _
  have hval : ∀ (j : Nat) t v, Try.f7.params[j]? = some t → args[j]? = some v → Value.okWide Try.prog W .any base t v := hval0
  have hW' := hW
  obtain ⟨p, q, hA0, hV, rfl, hfz, hnd⟩ := hW
  have hA : DataW.TrodAll enc Try.prog W 0 (fun _ => true) true Try.f7.params.toList args.toList ds p := hA0
  rw [Try.params7] at hA hval
  obtain ⟨v0, vs0, d0, ds0, p0, q0, hargs, rfl, rfl, h0, r0⟩ := trodAll_cons hA
  obtain ⟨v1, vs1, d1, ds1, p1, q1, rfl, rfl, rfl, h1, r1⟩ := trodAll_cons r0
  obtain ⟨v2, vs2, d2, ds2, p2, q2, rfl, rfl, rfl, h2, r2⟩ := trodAll_cons r1
  obtain ⟨rfl, rfl, rfl⟩ := trodAll_nil r2
  obtain rfl : args = #[v0, v1, v2] := by cases args; simp_all
  obtain ⟨rfl, rfl⟩ := trodVars_none hV
  have lt0 : ∀ x ∈ p0, x.block < W.heap.size := by obtain ⟨m, hm⟩ := h0; exact DataW.trod_lt m _ _ _ hm
  obtain ⟨x0, w0⟩ := arg_open (KCmd) h0 (hval 0 _ v0 rfl rfl) (by kernel_rfl)
  have lt1 : ∀ x ∈ p1, x.block < W.heap.size := by obtain ⟨m, hm⟩ := h1; exact DataW.trod_lt m _ _ _ hm
  obtain ⟨x1, w1⟩ := arg_open (Kd.int .i64) h1 (hval 1 _ v1 rfl rfl) (by kernel_rfl)
  have lt2 : ∀ x ∈ p2, x.block < W.heap.size := by obtain ⟨m, hm⟩ := h2; exact DataW.trod_lt m _ _ _ hm
  obtain ⟨x2, w2⟩ := arg_open (Kd.str) h2 (hval 2 _ v2 rfl rfl) (by kernel_rfl)
  clear hA0 hval0
  refine (CommandCut_walk W v0 v1 v2 x0 w0 x1 w1 x2 w2).mono fun e W' ⟨he, bel⟩ => ?_
  subst he
  exact ⟨_, rfl, _, _, _, [], _, [], hW', trodAll_mk1 (shut_bool (by kernel_rfl) _), (trodAll_cons_mk (Below.trod laidOut (by kernel_rfl) (of_decide_eq_true (by kernel_rfl)) h0 bel lt0) (trodAll_cons_mk (Below.trod laidOut (by kernel_rfl) (of_decide_eq_true (by kernel_rfl)) h1 bel lt1) (trodAll_cons_mk (Below.trod laidOut (by kernel_rfl) (of_decide_eq_true (by kernel_rfl)) h2 bel lt2) trodAll_mk0))), rfl, bel.frame _, fun h => by cases h⟩

theorem over : Rows.commandCutRow.holds Try.pinned (OpenSpec.ofChange Rows.commandCutSpec) :=
  OpenClaim.holds_of_wide 7 Try.f7 rfl rfl rfl rfl rfl rfl rfl ⟨rfl, rfl, rfl, rfl, rfl⟩ rfl rfl rfl rfl rfl (by kernel_rfl) Try.func7 (by kernel_rfl)
    (of_decide_eq_true (by kernel_rfl)) (by unfold Func.isWrapper; rw [if_neg (of_decide_eq_false (by kernel_rfl))]; exact ⟨rfl, rfl⟩)
    (fun os started H enc _ => lifted os started H enc)
/-- THE STATEMENT. -/
theorem proved : Rows.CommandCutSaid := over
#print axioms proved
end CommandCut
end Go.Proofs.Ytafdnalanmbcpaa
