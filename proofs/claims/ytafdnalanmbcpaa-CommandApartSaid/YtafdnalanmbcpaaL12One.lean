/- Bytes that are read as a command are its bytes: the statement CommandOne holds of all arguments. No condition. -/
import Derived.Test.YtafdnalanmbcpaaCmdA
set_option linter.unusedSimpArgs false
set_option linter.unusedVariables false
namespace Go.Proofs.Ytafdnalanmbcpaa
open Go.RowKit
set_option maxHeartbeats 4000000
set_option maxRecDepth 100000

theorem Cmd.Sound.wf {c : Cmd} (h : c.Sound) : c.Wf := by
  obtain ⟨f1, f2, f3, f4, f5, f6, f7, f8, f9⟩ := h.fits
  have hm := Cmd.rise_mem _ _ h.rise
  exact ⟨by omega, by omega, by omega, h.blob, by omega, h.sum, fun x hx => by have := hm x hx; omega, by omega, by omega, by omega⟩
theorem Cmd.Sound.name {c : Cmd} (h : c.Sound) : c.name.length ≤ 32 := h.fits.2.2.2.1
theorem Cmd.Sound.disks {c : Cmd} (h : c.Sound) : c.disks.length ≤ 6 := h.fits.2.2.2.2.2.1

theorem Cmd.Sound.bytes_le {c : Cmd} (h : c.Sound) : c.bytes.length ≤ 10000 := by
  obtain ⟨f1, f2, f3, f4, f5, f6, f7, f8, f9⟩ := h.fits
  have hm := Cmd.rise_mem _ _ h.rise
  have h1 := Wire.num_le c.kind.toNat (by omega)
  have h2 := Wire.num_le c.client.toNat (by omega)
  have h3 := Wire.num_le c.seq.toNat (by omega)
  have h4 := Wire.num_le c.name.length (by omega)
  have h5 := Wire.num_le c.blob h.blob
  have h6 := Wire.num_le c.size.toNat (by omega)
  have h7 := Wire.num_le c.sum (by have := h.sum; omega)
  have h8 := Wire.num_le (c.disks.map Int.toNat).length (by simp; omega)
  have h9 := Wire.flat_le (c.disks.map Int.toNat) (fun x hx => by
    obtain ⟨y, hy, rfl⟩ := List.mem_map.1 hx
    have := hm y hy
    omega)
  have h10 := Wire.num_le c.pool.toNat (by omega)
  have h11 := Wire.num_le c.vol.toNat (by omega)
  have h12 := Wire.num_le c.blk.toNat (by omega)
  have h13 : (c.disks.map Int.toNat).length = c.disks.length := by simp
  simp only [Cmd.bytes, List.length_append, List.length_nil]
  omega

theorem CommandOne_walk (W : World) (v0 : Value) (x0 : Kd.str.den) (w0 : Kd.str.Arg W v0 x0) : Calls Try.prog 4 #[v0] W (Done W) := by
  obtain ⟨s, rfl⟩ : ∃ s : ByteArray, s = x0 := ⟨_, rfl⟩
  obtain ⟨rfl, hs⟩ := w0
  have HC := Lib.hid (law_Cut s (by unfold maxLen at hs; omega) 200 (by omega) W)
  obtain ⟨l, hl⟩ : ∃ l, l = s.data.toList.take 200 := ⟨_, rfl⟩
  rw [← hl] at HC
  have hll : l.length ≤ 200 := by rw [hl]; simp; omega
  clear hl
  have HR := Lib.hid (cmd_Read l (by omega) W)
  (go_enter Try.func4, Try.ntmps4)
  go_wp2_with fail
  refine HC.out.mono ?_; rintro e w1 ⟨rfl, rfl⟩
  go_wp2_with fail
  refine HR.out.mono ?_; rintro e w2 ⟨hB, t, hOf, hne, hok⟩
  clear HR HC
  by_cases he : t.err = 0
  · obtain ⟨dao, dcap, rfl, hsl⟩ := hok he
    obtain ⟨hlb, hg, hb64, hs32⟩ := Cmd.Taken.inv hOf he
    clear hok hne hOf he
    have hS : t.cmd.Sound := ⟨hg, hb64, hs32⟩
    generalize t.cmd = c at *
    have HG := Lib.hid (fun wx hx => cmd_Good c hS.wf (by have := hS.name; omega) (by have := hS.disks; omega) dao dcap wx hx)
    have HW := Lib.hid (fun wx hx => cmd_Write c hS.wf (by have := hS.name; omega) (by have := hS.disks; omega) dao dcap wx hx)
    rw [hg] at HG
    rw [← hlb] at HW
    clear hlb hg hb64 hs32 hS
    obtain ⟨kind, client, seq, name, blob, size, sum, disks, pool, vol, blk⟩ := c
    unfold Cmd.cells at HG HW ⊢
    simp only at HG HW hsl ⊢
    have hb := Blk.new w2 #[.int .i64 (kind), .int .i64 (client), .int .i64 (seq), .string (bs name), .int .u64 (blob : Int), .int .i64 (size), .int .u32 (sum : Int), .slice dao disks.length dcap, .int .i64 (pool), .int .i64 (vol), .int .i64 (blk)] 26
    have hB2 := hB.alloc hB.size (.cells #[.int .i64 (kind), .int .i64 (client), .int .i64 (seq), .string (bs name), .int .u64 (blob : Int), .int .i64 (size), .int .u32 (sum : Int), .slice dao disks.length dcap, .int .i64 (pool), .int .i64 (vol), .int .i64 (blk)] 26)
    have hsl2 := hsl.below ((Below.refl _ w2).alloc (Nat.le_refl _) (.cells #[.int .i64 (kind), .int .i64 (client), .int .i64 (seq), .string (bs name), .int .u64 (blob : Int), .int .i64 (size), .int .u32 (sum : Int), .slice dao disks.length dcap, .int .i64 (pool), .int .i64 (vol), .int .i64 (blk)] 26))
    clear hB hsl
    go_wp2_with fail
    refine (awake_any _).mono ?_; rintro e w3 ⟨rfl, hB⟩
    have hb3 := hb.keep (only_of_below hB (fun _ => False)) (fun e => e)
    have hsl3 := hsl2.below hB
    have hB3 := hB2.trans (hB.mono hB2.size)
    clear hb hsl2 hB hB2
    have hc0x := hb3.cell 0
    have hc1x := hb3.cell 1
    have hc2x := hb3.cell 2
    have hc3x := hb3.cell 3
    have hc4x := hb3.cell 4
    have hc5x := hb3.cell 5
    have hc6x := hb3.cell 6
    have hc7x := hb3.cell 7
    have hc8x := hb3.cell 8
    have hc9x := hb3.cell 9
    have hc10x := hb3.cell 10
    simp only [List.getElem?_toArray, List.getElem?_cons_zero, List.getElem?_cons_succ] at hc0x hc1x hc2x hc3x hc4x hc5x hc6x hc7x hc8x hc9x hc10x
    have HG3 := Lib.hid (HG.out _ hsl3)
    go_wp2_with fail
    refine HG3.out.mono ?_; rintro e w4 ⟨rfl, hB⟩
    clear hc0x hc1x hc2x hc3x hc4x hc5x hc6x hc7x hc8x hc9x hc10x
    have hb4 := hb3.keep (only_of_below hB (fun _ => False)) (fun e => e)
    have hsl4 := hsl3.below hB
    have hB4 := hB3.trans (hB.mono hB3.size)
    clear hb3 hsl3 hB hB3 HG3
    have hc0x := hb4.cell 0
    have hc1x := hb4.cell 1
    have hc2x := hb4.cell 2
    have hc3x := hb4.cell 3
    have hc4x := hb4.cell 4
    have hc5x := hb4.cell 5
    have hc6x := hb4.cell 6
    have hc7x := hb4.cell 7
    have hc8x := hb4.cell 8
    have hc9x := hb4.cell 9
    have hc10x := hb4.cell 10
    simp only [List.getElem?_toArray, List.getElem?_cons_zero, List.getElem?_cons_succ] at hc0x hc1x hc2x hc3x hc4x hc5x hc6x hc7x hc8x hc9x hc10x
    have HW4 := Lib.hid (HW.out _ hsl4)
    go_wp2_with fail
    refine HW4.out.mono ?_; rintro e w5 ⟨rfl, hB⟩
    go_wp2_with fail
    go_ret
    exact ⟨rfl, hB4.trans (hB.mono hB4.size)⟩
  · have hr := hne he
    subst hr
    have he1 : (t.err == 0) = false := by simpa using he
    have he2 : (t.err != 0) = true := by simpa using he
    clear hok hne hOf he
    generalize t.err = er at *
    have hb := Blk.new w2 #[.int .i64 (0), .int .i64 (0), .int .i64 (0), .string ⟨#[]⟩, .int .u64 0, .int .i64 (0), .int .u32 0, .slice none 0 0, .int .i64 (0), .int .i64 (0), .int .i64 (0)] 26
    have hB2 := hB.alloc hB.size (.cells #[.int .i64 (0), .int .i64 (0), .int .i64 (0), .string ⟨#[]⟩, .int .u64 0, .int .i64 (0), .int .u32 0, .slice none 0 0, .int .i64 (0), .int .i64 (0), .int .i64 (0)] 26)
    go_wp2_with fail
    refine (awake_any _).mono ?_; rintro e w3 ⟨rfl, hB⟩
    have hb3 := hb.keep (only_of_below hB (fun _ => False)) (fun e => e)
    have hB3 := hB2.trans (hB.mono hB2.size)
    clear hb
    have hc0x := hb3.cell 0
    have hc1x := hb3.cell 1
    have hc2x := hb3.cell 2
    have hc3x := hb3.cell 3
    have hc4x := hb3.cell 4
    have hc5x := hb3.cell 5
    have hc6x := hb3.cell 6
    have hc7x := hb3.cell 7
    have hc8x := hb3.cell 8
    have hc9x := hb3.cell 9
    have hc10x := hb3.cell 10
    simp only [List.getElem?_toArray, List.getElem?_cons_zero, List.getElem?_cons_succ] at hc0x hc1x hc2x hc3x hc4x hc5x hc6x hc7x hc8x hc9x hc10x
    go_wp2_with fail
    go_ret
    exact ⟨rfl, hB3⟩
namespace CommandOne
open Go.ChangeShapes Go.WideShapes Go.ChangeAt Go.RowKit
set_option linter.unusedVariables false
theorem own : ownKnob Try.prog.godebug = none := by kernel_rfl
theorem laidOut : laidOutB Try.prog = true := by kernel_rfl
set_option maxRecDepth 100000 in
theorem lifted (os : Os) (started : os.Started) (H : Type) (enc : TypeId × Value → H) :
    ReturnsInHanded {} Try.checked os 4 .any (Rows.commandOneSpec.pre6 enc Try.prog Try.f4 Rows.commandOneRow.domain false) (Rows.commandOneSpec.post enc Try.prog Try.f4 false true false false) := by
  refine returnsInHanded_of_change (C := Try.checked) own started (by kernel_rfl) Try.func4
    (ChangeSpec.witness6 (enc := enc) (C := Try.checked) false ⟨#[], #[.string ⟨#[]⟩], []⟩ 8 (by kernel_rfl) (by kernel_rfl) (by kernel_rfl) (by kernel_rfl)) ?_
  intro W base args ds gs before hval0 hW hcnd _
  have hval : ∀ (j : Nat) t v, Try.f4.params[j]? = some t → args[j]? = some v → Value.okWide Try.prog W .any base t v := hval0
  have hW' := hW
  obtain ⟨p, q, hA0, hV, rfl, hfz, hnd⟩ := hW
  have hA : DataW.TrodAll enc Try.prog W 0 (fun _ => true) true Try.f4.params.toList args.toList ds p := hA0
  rw [Try.params4] at hA hval
  obtain ⟨v0, vs0, d0, ds0, p0, q0, hargs, rfl, rfl, h0, r0⟩ := trodAll_cons hA
  obtain ⟨rfl, rfl, rfl⟩ := trodAll_nil r0
  obtain rfl : args = #[v0] := by cases args; simp_all
  obtain ⟨rfl, rfl⟩ := trodVars_none hV
  have lt0 : ∀ x ∈ p0, x.block < W.heap.size := by obtain ⟨m, hm⟩ := h0; exact DataW.trod_lt m _ _ _ hm
  obtain ⟨x0, w0⟩ := arg_open (Kd.str) h0 (hval 0 _ v0 rfl rfl) (by kernel_rfl)
  clear hA0 hval0
  refine (CommandOne_walk W v0 x0 w0).mono fun e W' ⟨he, bel⟩ => ?_
  subst he
  exact ⟨_, rfl, _, _, _, [], _, [], hW', trodAll_mk1 (shut_bool (by kernel_rfl) _), (trodAll_cons_mk (Below.trod laidOut (by kernel_rfl) (of_decide_eq_true (by kernel_rfl)) h0 bel lt0) trodAll_mk0), rfl, bel.frame _, fun h => by cases h⟩

theorem over : Rows.commandOneRow.holds Try.pinned (OpenSpec.ofChange Rows.commandOneSpec) :=
  OpenClaim.holds_of_wide 4 Try.f4 rfl rfl rfl rfl rfl rfl rfl ⟨rfl, rfl, rfl, rfl, rfl⟩ rfl rfl rfl rfl rfl (by kernel_rfl) Try.func4 (by kernel_rfl)
    (of_decide_eq_true (by kernel_rfl)) (by unfold Func.isWrapper; rw [if_neg (of_decide_eq_false (by kernel_rfl))]; exact ⟨rfl, rfl⟩)
    (fun os started H enc _ => lifted os started H enc)
/-- THE STATEMENT. -/
theorem proved : Rows.CommandOneSaid := over
#print axioms proved
end CommandOne
end Go.Proofs.Ytafdnalanmbcpaa
