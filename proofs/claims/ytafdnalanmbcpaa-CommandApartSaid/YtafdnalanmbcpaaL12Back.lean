/- A command goes as bytes, and comes back: the statement CommandBack holds of all arguments. No condition. -/
import Derived.Test.YtafdnalanmbcpaaL12Same
set_option linter.unusedSimpArgs false
set_option linter.unusedVariables false
namespace Go.Proofs.Ytafdnalanmbcpaa
open Go.RowKit
set_option maxHeartbeats 4000000
set_option maxRecDepth 100000

theorem cmd_Told' (kind client seq : Int) (name : List UInt8) (blob : Nat) (size : Int) (sum n : Nat) (dao : Option Addr) (dcap : Nat) (pool vol blk : Int) (W : World) :
    Calls Try.prog 15 #[.agg #[.int .i64 (kind), .int .i64 (client), .int .i64 (seq), .string (bs name), .int .u64 (blob : Int), .int .i64 (size), .int .u32 (sum : Int), .slice dao n dcap, .int .i64 (pool), .int .i64 (vol), .int .i64 (blk)]] W (Fresh (.agg #[.int .i64 (kind), .int .i64 (client), .int .i64 (seq), .string (bs name), .int .u64 (blob : Int), .int .i64 (size), .int .u32 (sum : Int), .slice dao n dcap, .int .i64 (pool), .int .i64 (vol), .int .i64 (blk)]) W) := by
  have h := cmd_Told ⟨kind, client, seq, name, blob, size, sum, List.replicate n 0, pool, vol, blk⟩ dao dcap W
  unfold Cmd.cells at h
  simp only [List.length_replicate] at h
  exact h
theorem CommandBack_walk (W : World) (v0 : Value) (x0 : KCmd.den) (w0 : KCmd.Arg W v0 x0) : Calls Try.prog 3 #[v0] W (Done W) := by
  obtain ⟨c, dao, dcap, rfl, hwf, hnm, hsl⟩ := cmd_arg w0
  clear w0
  obtain ⟨kind, client, seq, name0, blob, size, sum, disks, pool, vol, blk⟩ := c
  obtain ⟨o1, o2, o3, o4, o5, o6, o7, o8, o9, o10⟩ := hwf
  simp only at o1 o2 o3 o4 o5 o6 o7 o8 o9 o10 hnm hsl
  unfold Cmd.cells
  simp only
  unfold maxLen at hnm
  have hb := Blk.new W #[.int .i64 (kind), .int .i64 (client), .int .i64 (seq), .string (bs name0), .int .u64 (blob : Int), .int .i64 (size), .int .u32 (sum : Int), .slice dao disks.length dcap, .int .i64 (pool), .int .i64 (vol), .int .i64 (blk)] 26
  have hB0 : Below W.heap.size W (W.alloc (.cells #[.int .i64 (kind), .int .i64 (client), .int .i64 (seq), .string (bs name0), .int .u64 (blob : Int), .int .i64 (size), .int .u32 (sum : Int), .slice dao disks.length dcap, .int .i64 (pool), .int .i64 (vol), .int .i64 (blk)] 26)) := (by repeat' (first | exact Below.refl _ _ | assumption | refine Below.setCell ?_ (by first | omega | (simp; done) | (simp; omega)) _ | refine Below.alloc ?_ (by first | omega | (simp; done) | (simp; omega)) _ | refine below_drew ?_ _ | apply Below.drew))
  have HC := Lib.hid (law_Cut (bs name0) (by rw [bs_size]; omega) 32 (by omega) (W.alloc (.cells #[.int .i64 (kind), .int .i64 (client), .int .i64 (seq), .string (bs name0), .int .u64 (blob : Int), .int .i64 (size), .int .u32 (sum : Int), .slice dao disks.length dcap, .int .i64 (pool), .int .i64 (vol), .int .i64 (blk)] 26)))
  rw [show (bs name0).data.toList = name0 from rfl] at HC
  obtain ⟨name, hname⟩ : ∃ n, n = name0.take 32 := ⟨_, rfl⟩
  rw [← hname] at HC
  have hn32 : name.length ≤ 32 := by rw [hname]; simp; omega
  clear hname
  have hb1 := Blk.new W #[.int .i64 (kind), .int .i64 (client), .int .i64 (seq), .string (bs name), .int .u64 (blob : Int), .int .i64 (size), .int .u32 (sum : Int), .slice dao disks.length dcap, .int .i64 (pool), .int .i64 (vol), .int .i64 (blk)] 26
  have hB1 : Below W.heap.size W (W.alloc (.cells #[.int .i64 (kind), .int .i64 (client), .int .i64 (seq), .string (bs name), .int .u64 (blob : Int), .int .i64 (size), .int .u32 (sum : Int), .slice dao disks.length dcap, .int .i64 (pool), .int .i64 (vol), .int .i64 (blk)] 26)) := (by repeat' (first | exact Below.refl _ _ | assumption | refine Below.setCell ?_ (by first | omega | (simp; done) | (simp; omega)) _ | refine Below.alloc ?_ (by first | omega | (simp; done) | (simp; omega)) _ | refine below_drew ?_ _ | apply Below.drew))
  have HD := Lib.hid (cmd_Disk disks dao dcap _ (hsl.below hB1))
  have hc3 := hb.cell 3
  have hc7 := hb1.cell 7
  simp only [List.getElem?_toArray, List.getElem?_cons_zero, List.getElem?_cons_succ] at hc3 hc7
  have hf3 := hb.frozen 3
  clear hb
  (go_enter Try.func3, Try.ntmps3)
  go_wp2_with fail
  refine HC.out.mono ?_; rintro e w1 ⟨rfl, rfl⟩
  go_wp2_with fail
  refine HD.out.mono ?_; rintro e w1 ⟨v, rfl, hown, hB⟩
  have hr6 := Cmd.rise_diskTo disks 6 (Nat.le_refl _)
  have hl6 := Cmd.diskTo_len disks 6
  have hm6 := Cmd.rise_mem _ _ hr6
  generalize Cmd.diskTo disks 6 = ds at *
  obtain ⟨eao, ecap, rfl, _, _, _, _⟩ := Sl.of_own hown
  have hb2 := hb1.keep (only_of_below hB (fun _ => False)) (fun e => e)
  have hB2 := hB1.trans (hB.mono hB1.size)
  have hge := own_ge hown
  have hsz1 : (W.alloc (.cells #[.int .i64 (kind), .int .i64 (client), .int .i64 (seq), .string (bs name), .int .u64 (blob : Int), .int .i64 (size), .int .u32 (sum : Int), .slice dao disks.length dcap, .int .i64 (pool), .int .i64 (vol), .int .i64 (blk)] 26)).heap.size = W.heap.size + 1 := by simp
  rw [hsz1] at hge
  have hb3 : Blk (w1.setCell ⟨W.heap.size, 7, none⟩ (.slice eao ds.length ecap)) W.heap.size #[.int .i64 (kind), .int .i64 (client), .int .i64 (seq), .string (bs name), .int .u64 (blob : Int), .int .i64 (size), .int .u32 (sum : Int), .slice eao ds.length ecap, .int .i64 (pool), .int .i64 (vol), .int .i64 (blk)] 26 := by simpa using hb2.set 7 (.slice eao ds.length ecap)
  have hB3 := hB2.setCell (p := ⟨W.heap.size, 7, none⟩) (Nat.le_refl _) (.slice eao ds.length ecap)
  have hown3 := own_keep hown ((Only.refl (· = W.heap.size) w1).setCell ⟨W.heap.size, 7, none⟩ (.slice eao ds.length ecap) (fun _ => rfl)) (fun g hg e => by have := hge g hg; omega)
  have hsl3 := Sl.of_own hown3
  have hf1 := hb2.frozen 7
  have hc71 := hb2.cell 7
  simp only [List.getElem?_toArray, List.getElem?_cons_zero, List.getElem?_cons_succ] at hc71
  clear hc3 hc7 hf3 HD HC hB hown hown3 hb1 hb2 hB1 hB0 hB2 hsl hsz1
  have hWf : Cmd.Wf ⟨kind, client, seq, name, blob, size, sum, ds, pool, vol, blk⟩ := ⟨o1, o2, o3, o4, o5, o6, fun x hx => by have := hm6 x hx; omega, o8, o9, o10⟩
  have HG := Lib.hid (fun wx hx => cmd_Good ⟨kind, client, seq, name, blob, size, sum, ds, pool, vol, blk⟩ hWf (by first | omega | (simp only; omega)) (by first | omega | (simp only; omega)) eao ecap wx hx)
  have HSd : Hid (Cmd.good ⟨kind, client, seq, name, blob, size, sum, ds, pool, vol, blk⟩ = true → Cmd.Sound ⟨kind, client, seq, name, blob, size, sum, ds, pool, vol, blk⟩) := Lib.hid (fun h => ⟨h, o4, o6⟩)
  have HWr := Lib.hid (fun wx hx => cmd_Write ⟨kind, client, seq, name, blob, size, sum, ds, pool, vol, blk⟩ hWf (by first | omega | (simp only; omega)) (by first | omega | (simp only; omega)) eao ecap wx hx)
  unfold Cmd.cells at HG HWr
  simp only at HG HWr
  clear hWf
  go_wp2_with fail
  refine (awake_any _).mono ?_; rintro e w3 ⟨rfl, hB⟩
  have hb4 := hb3.keep (only_of_below hB (fun _ => False)) (fun e => e)
  have hsl4 := hsl3.below hB
  have hB4 := hB3.trans (hB.mono hB3.size)
  clear hb3 hsl3 hB hB3 hf1 hc71
  have hc0x := hb4.cell 0
  have hc1x := hb4.cell 1
  have hc2x := hb4.cell 2
  have hc3x := hb4.cell 3
  have hc4x := hb4.cell 4
  have hc5x := hb4.cell 5
  have hc6x := hb4.cell 6
  have hc7x := hb4.cell 7
  have hc8x := hb4.cell 8
  have hc9x := hb4.cell 9
  have hc10x := hb4.cell 10
  simp only [List.getElem?_toArray, List.getElem?_cons_zero, List.getElem?_cons_succ] at hc0x hc1x hc2x hc3x hc4x hc5x hc6x hc7x hc8x hc9x hc10x
  obtain ⟨gd, hgd⟩ : ∃ g, g = Cmd.good ⟨kind, client, seq, name, blob, size, sum, ds, pool, vol, blk⟩ := ⟨_, rfl⟩
  have hGx := HG.out _ hsl4
  rw [← hgd] at hGx
  have HG3 := Lib.hid hGx
  have Hgd := Lib.hid hgd
  clear hGx hgd HG
  go_wp2_with fail
  refine HG3.out.mono ?_; rintro e w4 ⟨rfl, hB⟩
  clear hc0x hc1x hc2x hc3x hc4x hc5x hc6x hc7x hc8x hc9x hc10x
  have hb5 := hb4.keep (only_of_below hB (fun _ => False)) (fun e => e)
  have hsl5 := hsl4.below hB
  have hB5 := hB4.trans (hB.mono hB4.size)
  clear hb4 hsl4 hB hB4 HG3
  cases gd with
  | false =>
    go_wp2_with fail
    refine (awake_any _).mono ?_; rintro e w5 ⟨rfl, hB⟩
    go_wp2_with fail
    go_ret
    exact ⟨rfl, hB5.trans (hB.mono hB5.size)⟩
  | true =>
    have hS := HSd.out Hgd.out.symm
    have HW4 := HWr.out _ hsl5
    obtain ⟨B, hBy⟩ : ∃ B, B = Cmd.bytes ⟨kind, client, seq, name, blob, size, sum, ds, pool, vol, blk⟩ := ⟨_, rfl⟩
    rw [← hBy] at HW4
    have hBl : B.length ≤ 10000 := by rw [hBy]; exact hS.bytes_le
    have HBy := Lib.hid hBy
    have HS := Lib.hid hS
    have HW4 := Lib.hid HW4
    clear hBy hS HSd HWr Hgd
    have hc0x := hb5.cell 0
    have hc1x := hb5.cell 1
    have hc2x := hb5.cell 2
    have hc3x := hb5.cell 3
    have hc4x := hb5.cell 4
    have hc5x := hb5.cell 5
    have hc6x := hb5.cell 6
    have hc7x := hb5.cell 7
    have hc8x := hb5.cell 8
    have hc9x := hb5.cell 9
    have hc10x := hb5.cell 10
    simp only [List.getElem?_toArray, List.getElem?_cons_zero, List.getElem?_cons_succ] at hc0x hc1x hc2x hc3x hc4x hc5x hc6x hc7x hc8x hc9x hc10x
    go_wp2_with fail
    refine HW4.out.mono ?_; rintro e wr ⟨rfl, hB⟩
    clear hc0x hc1x hc2x hc3x hc4x hc5x hc6x hc7x hc8x hc9x hc10x
    have hb6 := hb5.keep (only_of_below hB (fun _ => False)) (fun e => e)
    have hsl6 := hsl5.below hB
    have hBr := hB5.trans (hB.mono hB5.size)
    clear hb5 hsl5 hB hB5 HW4
    have HR := Lib.hid (cmd_Read B (by omega) wr)
    go_wp2_with fail
    refine HR.out.mono ?_; rintro e w9 ⟨hB, t, hOf, hne, hok⟩
    obtain ⟨e1, e2⟩ := Cmd.Taken.back HS.out (HBy.out ▸ hOf)
    rw [e1] at hok
    obtain ⟨fao, fcap, rfl, hslf⟩ := hok e2
    have hB9 := hBr.trans (hB.mono hBr.size)
    have hb9 := hb6.keep (only_of_below hB (fun _ => False)) (fun e => e)
    have hsl9 := hsl6.below hB
    clear hok hne hOf hB hBr HR hb6 hsl6 e1 e2
    unfold Cmd.cells
    simp only at hslf ⊢
    have hq := Blk.new w9 #[.int .i64 (kind), .int .i64 (client), .int .i64 (seq), .string (bs name), .int .u64 (blob : Int), .int .i64 (size), .int .u32 (sum : Int), .slice fao ds.length fcap, .int .i64 (pool), .int .i64 (vol), .int .i64 (blk)] 26
    have hbq := hb9.alloc (.cells #[.int .i64 (kind), .int .i64 (client), .int .i64 (seq), .string (bs name), .int .u64 (blob : Int), .int .i64 (size), .int .u32 (sum : Int), .slice fao ds.length fcap, .int .i64 (pool), .int .i64 (vol), .int .i64 (blk)] 26)
    have hBq := hB9.alloc hB9.size (.cells #[.int .i64 (kind), .int .i64 (client), .int .i64 (seq), .string (bs name), .int .u64 (blob : Int), .int .i64 (size), .int .u32 (sum : Int), .slice fao ds.length fcap, .int .i64 (pool), .int .i64 (vol), .int .i64 (blk)] 26)
    have hq1 := hsl9.below ((Below.refl _ w9).alloc (Nat.le_refl _) (.cells #[.int .i64 (kind), .int .i64 (client), .int .i64 (seq), .string (bs name), .int .u64 (blob : Int), .int .i64 (size), .int .u32 (sum : Int), .slice fao ds.length fcap, .int .i64 (pool), .int .i64 (vol), .int .i64 (blk)] 26))
    have hq2 := hslf.below ((Below.refl _ w9).alloc (Nat.le_refl _) (.cells #[.int .i64 (kind), .int .i64 (client), .int .i64 (seq), .string (bs name), .int .u64 (blob : Int), .int .i64 (size), .int .u32 (sum : Int), .slice fao ds.length fcap, .int .i64 (pool), .int .i64 (vol), .int .i64 (blk)] 26))
    have hs9 : (w9.alloc (.cells #[.int .i64 (kind), .int .i64 (client), .int .i64 (seq), .string (bs name), .int .u64 (blob : Int), .int .i64 (size), .int .u32 (sum : Int), .slice fao ds.length fcap, .int .i64 (pool), .int .i64 (vol), .int .i64 (blk)] 26)).heap.size = w9.heap.size + 1 := by simp
    clear hb9 hB9 hsl9 hslf
    go_wp2_with fail
    generalize hwz : w9.alloc (.cells #[.int .i64 (kind), .int .i64 (client), .int .i64 (seq), .string (bs name), .int .u64 (blob : Int), .int .i64 (size), .int .u32 (sum : Int), .slice fao ds.length fcap, .int .i64 (pool), .int .i64 (vol), .int .i64 (blk)] 26) = wz at *
    clear hwz
    have hc0x := hq.cell 0
    have hc1x := hq.cell 1
    have hc2x := hq.cell 2
    have hc3x := hq.cell 3
    have hc4x := hq.cell 4
    have hc5x := hq.cell 5
    have hc6x := hq.cell 6
    have hc7x := hq.cell 7
    have hc8x := hq.cell 8
    have hc9x := hq.cell 9
    have hc10x := hq.cell 10
    simp only [List.getElem?_toArray, List.getElem?_cons_zero, List.getElem?_cons_succ] at hc0x hc1x hc2x hc3x hc4x hc5x hc6x hc7x hc8x hc9x hc10x
    have hc0y := hbq.cell 0
    have hc1y := hbq.cell 1
    have hc2y := hbq.cell 2
    have hc3y := hbq.cell 3
    have hc4y := hbq.cell 4
    have hc5y := hbq.cell 5
    have hc6y := hbq.cell 6
    have hc7y := hbq.cell 7
    have hc8y := hbq.cell 8
    have hc9y := hbq.cell 9
    have hc10y := hbq.cell 10
    simp only [List.getElem?_toArray, List.getElem?_cons_zero, List.getElem?_cons_succ] at hc0y hc1y hc2y hc3y hc4y hc5y hc6y hc7y hc8y hc9y hc10y
    have hlq := hq.lt
    have hlb := hbq.lt
    have hT : ∀ w', Below wz.heap.size wz w' → (Below wz.heap.size wz w' ∧ (w'.cell? ⟨w9.heap.size, 0, none⟩ = some (.int .i64 (kind)) ∧ w'.cell? ⟨w9.heap.size, 1, none⟩ = some (.int .i64 (client)) ∧ w'.cell? ⟨w9.heap.size, 2, none⟩ = some (.int .i64 (seq)) ∧ w'.cell? ⟨w9.heap.size, 3, none⟩ = some (.string (bs name)) ∧ w'.cell? ⟨w9.heap.size, 4, none⟩ = some (.int .u64 (blob : Int)) ∧ w'.cell? ⟨w9.heap.size, 5, none⟩ = some (.int .i64 (size)) ∧ w'.cell? ⟨w9.heap.size, 6, none⟩ = some (.int .u32 (sum : Int)) ∧ w'.cell? ⟨w9.heap.size, 7, none⟩ = some (.slice fao ds.length fcap) ∧ w'.cell? ⟨w9.heap.size, 8, none⟩ = some (.int .i64 (pool)) ∧ w'.cell? ⟨w9.heap.size, 9, none⟩ = some (.int .i64 (vol)) ∧ w'.cell? ⟨w9.heap.size, 10, none⟩ = some (.int .i64 (blk))) ∧ (w'.cell? ⟨W.heap.size, 0, none⟩ = some (.int .i64 (kind)) ∧ w'.cell? ⟨W.heap.size, 1, none⟩ = some (.int .i64 (client)) ∧ w'.cell? ⟨W.heap.size, 2, none⟩ = some (.int .i64 (seq)) ∧ w'.cell? ⟨W.heap.size, 3, none⟩ = some (.string (bs name)) ∧ w'.cell? ⟨W.heap.size, 4, none⟩ = some (.int .u64 (blob : Int)) ∧ w'.cell? ⟨W.heap.size, 5, none⟩ = some (.int .i64 (size)) ∧ w'.cell? ⟨W.heap.size, 6, none⟩ = some (.int .u32 (sum : Int)) ∧ w'.cell? ⟨W.heap.size, 7, none⟩ = some (.slice eao ds.length ecap) ∧ w'.cell? ⟨W.heap.size, 8, none⟩ = some (.int .i64 (pool)) ∧ w'.cell? ⟨W.heap.size, 9, none⟩ = some (.int .i64 (vol)) ∧ w'.cell? ⟨W.heap.size, 10, none⟩ = some (.int .i64 (blk)))) := fun w' h => ⟨h, ⟨(h.cell (p := ⟨w9.heap.size, 0, none⟩) hlq).trans hc0x, (h.cell (p := ⟨w9.heap.size, 1, none⟩) hlq).trans hc1x, (h.cell (p := ⟨w9.heap.size, 2, none⟩) hlq).trans hc2x, (h.cell (p := ⟨w9.heap.size, 3, none⟩) hlq).trans hc3x, (h.cell (p := ⟨w9.heap.size, 4, none⟩) hlq).trans hc4x, (h.cell (p := ⟨w9.heap.size, 5, none⟩) hlq).trans hc5x, (h.cell (p := ⟨w9.heap.size, 6, none⟩) hlq).trans hc6x, (h.cell (p := ⟨w9.heap.size, 7, none⟩) hlq).trans hc7x, (h.cell (p := ⟨w9.heap.size, 8, none⟩) hlq).trans hc8x, (h.cell (p := ⟨w9.heap.size, 9, none⟩) hlq).trans hc9x, (h.cell (p := ⟨w9.heap.size, 10, none⟩) hlq).trans hc10x⟩, ⟨(h.cell (p := ⟨W.heap.size, 0, none⟩) hlb).trans hc0y, (h.cell (p := ⟨W.heap.size, 1, none⟩) hlb).trans hc1y, (h.cell (p := ⟨W.heap.size, 2, none⟩) hlb).trans hc2y, (h.cell (p := ⟨W.heap.size, 3, none⟩) hlb).trans hc3y, (h.cell (p := ⟨W.heap.size, 4, none⟩) hlb).trans hc4y, (h.cell (p := ⟨W.heap.size, 5, none⟩) hlb).trans hc5y, (h.cell (p := ⟨W.heap.size, 6, none⟩) hlb).trans hc6y, (h.cell (p := ⟨W.heap.size, 7, none⟩) hlb).trans hc7y, (h.cell (p := ⟨W.heap.size, 8, none⟩) hlb).trans hc8y, (h.cell (p := ⟨W.heap.size, 9, none⟩) hlb).trans hc9y, (h.cell (p := ⟨W.heap.size, 10, none⟩) hlb).trans hc10y⟩⟩
    have hN : ∀ w' w2, (Below wz.heap.size wz w' ∧ (w'.cell? ⟨w9.heap.size, 0, none⟩ = some (.int .i64 (kind)) ∧ w'.cell? ⟨w9.heap.size, 1, none⟩ = some (.int .i64 (client)) ∧ w'.cell? ⟨w9.heap.size, 2, none⟩ = some (.int .i64 (seq)) ∧ w'.cell? ⟨w9.heap.size, 3, none⟩ = some (.string (bs name)) ∧ w'.cell? ⟨w9.heap.size, 4, none⟩ = some (.int .u64 (blob : Int)) ∧ w'.cell? ⟨w9.heap.size, 5, none⟩ = some (.int .i64 (size)) ∧ w'.cell? ⟨w9.heap.size, 6, none⟩ = some (.int .u32 (sum : Int)) ∧ w'.cell? ⟨w9.heap.size, 7, none⟩ = some (.slice fao ds.length fcap) ∧ w'.cell? ⟨w9.heap.size, 8, none⟩ = some (.int .i64 (pool)) ∧ w'.cell? ⟨w9.heap.size, 9, none⟩ = some (.int .i64 (vol)) ∧ w'.cell? ⟨w9.heap.size, 10, none⟩ = some (.int .i64 (blk))) ∧ (w'.cell? ⟨W.heap.size, 0, none⟩ = some (.int .i64 (kind)) ∧ w'.cell? ⟨W.heap.size, 1, none⟩ = some (.int .i64 (client)) ∧ w'.cell? ⟨W.heap.size, 2, none⟩ = some (.int .i64 (seq)) ∧ w'.cell? ⟨W.heap.size, 3, none⟩ = some (.string (bs name)) ∧ w'.cell? ⟨W.heap.size, 4, none⟩ = some (.int .u64 (blob : Int)) ∧ w'.cell? ⟨W.heap.size, 5, none⟩ = some (.int .i64 (size)) ∧ w'.cell? ⟨W.heap.size, 6, none⟩ = some (.int .u32 (sum : Int)) ∧ w'.cell? ⟨W.heap.size, 7, none⟩ = some (.slice eao ds.length ecap) ∧ w'.cell? ⟨W.heap.size, 8, none⟩ = some (.int .i64 (pool)) ∧ w'.cell? ⟨W.heap.size, 9, none⟩ = some (.int .i64 (vol)) ∧ w'.cell? ⟨W.heap.size, 10, none⟩ = some (.int .i64 (blk)))) → Below w'.heap.size w' w2 → Below wz.heap.size wz w2 := fun w' w2 h k => h.1.trans (k.mono h.1.size)
    have hM : ∀ w', (Below wz.heap.size wz w' ∧ (w'.cell? ⟨w9.heap.size, 0, none⟩ = some (.int .i64 (kind)) ∧ w'.cell? ⟨w9.heap.size, 1, none⟩ = some (.int .i64 (client)) ∧ w'.cell? ⟨w9.heap.size, 2, none⟩ = some (.int .i64 (seq)) ∧ w'.cell? ⟨w9.heap.size, 3, none⟩ = some (.string (bs name)) ∧ w'.cell? ⟨w9.heap.size, 4, none⟩ = some (.int .u64 (blob : Int)) ∧ w'.cell? ⟨w9.heap.size, 5, none⟩ = some (.int .i64 (size)) ∧ w'.cell? ⟨w9.heap.size, 6, none⟩ = some (.int .u32 (sum : Int)) ∧ w'.cell? ⟨w9.heap.size, 7, none⟩ = some (.slice fao ds.length fcap) ∧ w'.cell? ⟨w9.heap.size, 8, none⟩ = some (.int .i64 (pool)) ∧ w'.cell? ⟨w9.heap.size, 9, none⟩ = some (.int .i64 (vol)) ∧ w'.cell? ⟨w9.heap.size, 10, none⟩ = some (.int .i64 (blk))) ∧ (w'.cell? ⟨W.heap.size, 0, none⟩ = some (.int .i64 (kind)) ∧ w'.cell? ⟨W.heap.size, 1, none⟩ = some (.int .i64 (client)) ∧ w'.cell? ⟨W.heap.size, 2, none⟩ = some (.int .i64 (seq)) ∧ w'.cell? ⟨W.heap.size, 3, none⟩ = some (.string (bs name)) ∧ w'.cell? ⟨W.heap.size, 4, none⟩ = some (.int .u64 (blob : Int)) ∧ w'.cell? ⟨W.heap.size, 5, none⟩ = some (.int .i64 (size)) ∧ w'.cell? ⟨W.heap.size, 6, none⟩ = some (.int .u32 (sum : Int)) ∧ w'.cell? ⟨W.heap.size, 7, none⟩ = some (.slice eao ds.length ecap) ∧ w'.cell? ⟨W.heap.size, 8, none⟩ = some (.int .i64 (pool)) ∧ w'.cell? ⟨W.heap.size, 9, none⟩ = some (.int .i64 (vol)) ∧ w'.cell? ⟨W.heap.size, 10, none⟩ = some (.int .i64 (blk)))) → Calls Try.prog 14 #[.agg #[.int .i64 (kind), .int .i64 (client), .int .i64 (seq), .string (bs name), .int .u64 (blob : Int), .int .i64 (size), .int .u32 (sum : Int), .slice fao ds.length fcap, .int .i64 (pool), .int .i64 (vol), .int .i64 (blk)], .agg #[.int .i64 (kind), .int .i64 (client), .int .i64 (seq), .string (bs name), .int .u64 (blob : Int), .int .i64 (size), .int .u32 (sum : Int), .slice eao ds.length ecap, .int .i64 (pool), .int .i64 (vol), .int .i64 (blk)]] w' (Fresh (.bool true) w') := fun w' h => ref_Same_eq ⟨kind, client, seq, name, blob, size, sum, ds, pool, vol, blk⟩ fao eao fcap ecap w' (hq2.below h.1) (hq1.below h.1)
    have HT := Lib.hid hT
    have HN := Lib.hid hN
    have HM := Lib.hid hM
    clear hc0x hc1x hc2x hc3x hc4x hc5x hc6x hc7x hc8x hc9x hc10x
    clear hc0y hc1y hc2y hc3y hc4y hc5y hc6y hc7y hc8y hc9y hc10y
    clear hT hN hM hq hbq
    go_region_held3 (fun w' => (Below wz.heap.size wz w' ∧ (w'.cell? ⟨w9.heap.size, 0, none⟩ = some (.int .i64 (kind)) ∧ w'.cell? ⟨w9.heap.size, 1, none⟩ = some (.int .i64 (client)) ∧ w'.cell? ⟨w9.heap.size, 2, none⟩ = some (.int .i64 (seq)) ∧ w'.cell? ⟨w9.heap.size, 3, none⟩ = some (.string (bs name)) ∧ w'.cell? ⟨w9.heap.size, 4, none⟩ = some (.int .u64 (blob : Int)) ∧ w'.cell? ⟨w9.heap.size, 5, none⟩ = some (.int .i64 (size)) ∧ w'.cell? ⟨w9.heap.size, 6, none⟩ = some (.int .u32 (sum : Int)) ∧ w'.cell? ⟨w9.heap.size, 7, none⟩ = some (.slice fao ds.length fcap) ∧ w'.cell? ⟨w9.heap.size, 8, none⟩ = some (.int .i64 (pool)) ∧ w'.cell? ⟨w9.heap.size, 9, none⟩ = some (.int .i64 (vol)) ∧ w'.cell? ⟨w9.heap.size, 10, none⟩ = some (.int .i64 (blk))) ∧ (w'.cell? ⟨W.heap.size, 0, none⟩ = some (.int .i64 (kind)) ∧ w'.cell? ⟨W.heap.size, 1, none⟩ = some (.int .i64 (client)) ∧ w'.cell? ⟨W.heap.size, 2, none⟩ = some (.int .i64 (seq)) ∧ w'.cell? ⟨W.heap.size, 3, none⟩ = some (.string (bs name)) ∧ w'.cell? ⟨W.heap.size, 4, none⟩ = some (.int .u64 (blob : Int)) ∧ w'.cell? ⟨W.heap.size, 5, none⟩ = some (.int .i64 (size)) ∧ w'.cell? ⟨W.heap.size, 6, none⟩ = some (.int .u32 (sum : Int)) ∧ w'.cell? ⟨W.heap.size, 7, none⟩ = some (.slice eao ds.length ecap) ∧ w'.cell? ⟨W.heap.size, 8, none⟩ = some (.int .i64 (pool)) ∧ w'.cell? ⟨W.heap.size, 9, none⟩ = some (.int .i64 (vol)) ∧ w'.cell? ⟨W.heap.size, 10, none⟩ = some (.int .i64 (blk))))) (first | exact HT.out _ (below_drew (Below.refl _ _) 1) | exact HT.out _ (by assumption)) (first | (go_at_call 15; refine (cmd_Told' _ _ _ _ _ _ _ _ _ _ _ _ _ _).mono ?_; rintro e w2 ⟨rfl, hBx⟩; have hB2 := HN.out _ _ (by assumption) hBx) | (go_at_call 14; refine (HM.out _ (by assumption)).mono ?_; rintro e w2 ⟨rfl, hBx⟩; have hB2 := HN.out _ _ (by assumption) hBx))
    all_goals
      go_wp2_with fail
      go_ret
      exact ⟨rfl, hBq.trans (Below.mono (by assumption) hBq.size)⟩
namespace CommandBack
open Go.ChangeShapes Go.WideShapes Go.ChangeAt Go.RowKit
set_option linter.unusedVariables false
theorem own : ownKnob Try.prog.godebug = none := by kernel_rfl
theorem laidOut : laidOutB Try.prog = true := by kernel_rfl
set_option maxRecDepth 100000 in
theorem lifted (os : Os) (started : os.Started) (H : Type) (enc : TypeId × Value → H) :
    ReturnsInHanded {} Try.checked os 3 .any (Rows.commandBackSpec.pre6 enc Try.prog Try.f3 Rows.commandBackRow.domain false) (Rows.commandBackSpec.post enc Try.prog Try.f3 false true false false) := by
  refine returnsInHanded_of_change (C := Try.checked) own started (by kernel_rfl) Try.func3
    (ChangeSpec.witness6 (enc := enc) (C := Try.checked) false ⟨#[], #[.agg #[.int .i64 0, .int .i64 0, .int .i64 0, .string ⟨#[]⟩, .int .u64 0, .int .i64 0, .int .u32 0, .slice none 0 0, .int .i64 0, .int .i64 0, .int .i64 0]], []⟩ 8 (by kernel_rfl) (by kernel_rfl) (by kernel_rfl) (by kernel_rfl)) ?_
  intro W base args ds gs before hval0 hW hcnd _
  have hval : ∀ (j : Nat) t v, Try.f3.params[j]? = some t → args[j]? = some v → Value.okWide Try.prog W .any base t v := hval0
  have hW' := hW
  obtain ⟨p, q, hA0, hV, rfl, hfz, hnd⟩ := hW
  have hA : DataW.TrodAll enc Try.prog W 0 (fun _ => true) true Try.f3.params.toList args.toList ds p := hA0
  rw [Try.params3] at hA hval
  obtain ⟨v0, vs0, d0, ds0, p0, q0, hargs, rfl, rfl, h0, r0⟩ := trodAll_cons hA
  obtain ⟨rfl, rfl, rfl⟩ := trodAll_nil r0
  obtain rfl : args = #[v0] := by cases args; simp_all
  obtain ⟨rfl, rfl⟩ := trodVars_none hV
  have lt0 : ∀ x ∈ p0, x.block < W.heap.size := by obtain ⟨m, hm⟩ := h0; exact DataW.trod_lt m _ _ _ hm
  obtain ⟨x0, w0⟩ := arg_open (KCmd) h0 (hval 0 _ v0 rfl rfl) (by kernel_rfl)
  clear hA0 hval0
  refine (CommandBack_walk W v0 x0 w0).mono fun e W' ⟨he, bel⟩ => ?_
  subst he
  exact ⟨_, rfl, _, _, _, [], _, [], hW', trodAll_mk1 (shut_bool (by kernel_rfl) _), (trodAll_cons_mk (Below.trod laidOut (by kernel_rfl) (of_decide_eq_true (by kernel_rfl)) h0 bel lt0) trodAll_mk0), rfl, bel.frame _, fun h => by cases h⟩

theorem over : Rows.commandBackRow.holds Try.pinned (OpenSpec.ofChange Rows.commandBackSpec) :=
  OpenClaim.holds_of_wide 3 Try.f3 rfl rfl rfl rfl rfl rfl rfl ⟨rfl, rfl, rfl, rfl, rfl⟩ rfl rfl rfl rfl rfl (by kernel_rfl) Try.func3 (by kernel_rfl)
    (of_decide_eq_true (by kernel_rfl)) (by unfold Func.isWrapper; rw [if_neg (of_decide_eq_false (by kernel_rfl))]; exact ⟨rfl, rfl⟩)
    (fun os started H enc _ => lifted os started H enc)
/-- THE STATEMENT. -/
theorem proved : Rows.CommandBackSaid := over
#print axioms proved
end CommandBack
end Go.Proofs.Ytafdnalanmbcpaa
