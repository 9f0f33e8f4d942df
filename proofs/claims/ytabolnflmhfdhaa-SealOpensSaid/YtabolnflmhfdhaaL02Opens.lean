/- Any bytes are the frames that they are: the statement SealOpens holds of all arguments. No condition. -/
import Derived.Test.YtabolnflmhfdhaaSealR2
import Derived.Test.YtabolnflmhfdhaaL02A
set_option linter.unusedSimpArgs false
set_option linter.unusedVariables false
namespace Go.Proofs.Ytabolnflmhfdhaa
open Go.RowKit
set_option maxHeartbeats 4000000
set_option maxRecDepth 100000

theorem cat_two (a b : ByteArray) : cat [a, b] = (a ++ b).data.toList := by
  simp [cat]
theorem strs_map (l : List (List UInt8)) : strs l = (l.map bs).map Value.string := by simp [strs]
theorem SealOpens_walk (W : World) (v0 v1 v2 : Value) (x0 : Kd.str.den) (w0 : Kd.str.Arg W v0 x0) (x1 : Kd.str.den) (w1 : Kd.str.Arg W v1 x1) (x2 : Kd.str.den) (w2 : Kd.str.Arg W v2 x2) :
    Calls Try.prog 8 #[v0, v1, v2] W (Done W) := by
  obtain ⟨s, rfl⟩ : ∃ s : ByteArray, s = x0 := ⟨_, rfl⟩
  obtain ⟨a, rfl⟩ : ∃ s : ByteArray, s = x1 := ⟨_, rfl⟩
  obtain ⟨b, rfl⟩ : ∃ s : ByteArray, s = x2 := ⟨_, rfl⟩
  obtain ⟨rfl, hs0⟩ := w0
  obtain ⟨rfl, ha0⟩ := w1
  obtain ⟨rfl, hb0⟩ := w2
  have C0 := Lib.hid (cut_any s 300 300 rfl (bs (s.data.toList.take 300)) rfl hs0)
  have C1 := Lib.hid (cut_any a 100 100 rfl (bs (a.data.toList.take 100)) rfl ha0)
  have C2 := Lib.hid (cut_any b 100 100 rfl (bs (b.data.toList.take 100)) rfl hb0)
  have hz0 : (bs (s.data.toList.take 300)).size ≤ 300 := by rw [bs_size, List.length_take]; omega
  have hz1 : (bs (a.data.toList.take 100)).size ≤ 100 := by rw [bs_size, List.length_take]; omega
  have hz2 : (bs (b.data.toList.take 100)).size ≤ 100 := by rw [bs_size, List.length_take]; omega
  generalize bs (s.data.toList.take 300) = t at *
  generalize bs (a.data.toList.take 100) = c at *
  generalize bs (b.data.toList.take 100) = d at *
  obtain ⟨x, k, q, ho⟩ : ∃ x k q, Seal.openL t.data.toList = (x, k, q) := ⟨_, _, _, rfl⟩
  obtain ⟨y, r, hy⟩ : ∃ y r, onlyL t.data.toList = (y, r) := ⟨_, _, rfl⟩
  have hyr : (q = 0 ∧ k < t.size → y = [] ∧ r = 3) ∧ (¬ (q = 0 ∧ k < t.size) → y = x ∧ r = q) := by
    unfold onlyL at hy
    rw [ho] at hy
    simp only [Array.length_toList] at hy
    rw [show t.data.size = t.size from rfl] at hy
    constructor
    · intro h; rw [if_pos h] at hy; injection hy with h1 h2; exact ⟨h1.symm, h2.symm⟩
    · intro h; rw [if_neg h] at hy; injection hy with h1 h2; exact ⟨h1.symm, h2.symm⟩
  have HO1 := Lib.hid (fun w => seal_open' t (by omega) _ rfl x k q ho w)
  have HO2 := Lib.hid (fun w => ref_open' t (by omega) _ rfl x k q ho w)
  have HS1 := Lib.hid (fun w => seal_scan t (by omega) w)
  have HS2 := Lib.hid (fun w => ref_scan t (by omega) w)
  have HN := Lib.hid (fun w => seal_only t (by omega) y r hy w)
  obtain ⟨L, at_, hL⟩ : ∃ L at_, Seal.scan t.data.toList = (L, at_) := ⟨_, _, rfl⟩
  unfold ScanP at HS1 HS2
  rw [hL] at HS1 HS2
  have Hyr := Lib.hid hyr
  have hcd := cat_two c d
  have hcds : (c ++ d).size ≤ 200 := by rw [ByteArray.size_append]; omega
  have hcdm : c.size + d.size ≤ 9223372036854775807 := by omega
  have hmem : ∀ x ∈ [c, d], x.size ≤ maxLen := by
    intro x hx
    simp only [List.mem_cons, List.not_mem_nil, or_false] at hx
    unfold maxLen
    rcases hx with rfl | rfl <;> omega
  have HM1 := Lib.hid (fun (v : Value) (w : World) (h : Sl w v 2 1 ([c, d].map .string)) => seal_sum v 2 [c, d] w h hmem)
  have HM2 := Lib.hid (fun w => ref_sum (c ++ d) (by omega) w)
  have HF1 := Lib.hid (fun (v : Value) (w : World) (h : Sl w v 2 1 ([c, d].map .string)) (hz : ∀ l c, v = .slice none l c → c = 0) => seal_frame v 2 [c, d] w h (by rw [hcd]; show (c ++ d).size ≤ _; omega) (by omega) hz)
  have HF2 := Lib.hid (fun w => ref_frame (c ++ d) (by omega) w)
  rw [hcd] at HM1 HF1
  generalize Seal.sumL (c ++ d).data.toList = S at *
  generalize bs (Seal.frame (c ++ d).data.toList) = F at *
  clear hcd hmem ho hy hyr hL hs0 ha0 hb0
  (go_enter Try.func8, Try.ntmps8)
  go_wp2_with fail
  refine (C0.out _).mono ?_; rintro e wq ⟨rfl, rfl⟩
  go_wp2_with fail
  refine (C1.out _).mono ?_; rintro e wq ⟨rfl, rfl⟩
  go_wp2_with fail
  refine (C2.out _).mono ?_; rintro e wq ⟨rfl, rfl⟩
  go_wp2_with fail
  refine (HO1.out _).mono ?_; rintro e w1 ⟨rfl, hB1⟩
  go_wp2_with fail
  refine (HO2.out _).mono ?_; rintro e w2 ⟨rfl, hb⟩
  have hB2 := hB1.trans (hb.mono hB1.size)
  clear hB1 hb
  go_wp2_with fail
  refine (HS1.out _).mono ?_; rintro e w3 ⟨l1, rfl, ho1, hb⟩
  have hB3 := hB2.trans (hb.mono hB2.size)
  clear hB2 hb
  go_wp2_with fail
  refine (HS2.out _).mono ?_; rintro e w4 ⟨l2, rfl, ho2, hb⟩
  have hB4 := hB3.trans (hb.mono hB3.size)
  have ho1' := own_keep ho1 (only_of_below hb (fun _ => False)) (fun _ _ e => e)
  clear hB3 hb ho1
  go_wp2_with fail
  refine (HN.out _).mono ?_; rintro e w5 ⟨rfl, hb⟩
  have hB5 := hB4.trans (hb.mono hB4.size)
  have hs1 := (Sl.of_own ho1').below hb
  have hs2 := (Sl.of_own ho2).below hb
  clear hB4 hb ho1' ho2
  go_wp2_with fail
  refine (awake_any _).mono ?_; rintro e w6 ⟨rfl, hb⟩
  have hB6 := hB5.trans (hb.mono hB5.size)
  have hs1 := hs1.below hb
  have hs2 := hs2.below hb
  clear hB5 hb
  rw [strs_map] at hs1 hs2
  have HSm := Lib.hid (same_any l1 l2 L.length (L.map bs) (by simp) _ hs1 hs2)
  obtain ⟨lo1, lc1, rfl, _, _, _, _⟩ := hs1
  obtain ⟨lo2, lc2, rfl, _, _, _, _⟩ := hs2
  go_wp2_with fail
  refine HSm.out.mono ?_; rintro e w7 ⟨kd, rfl, rfl⟩
  have hB7 := below_drew hB6 kd
  clear hB6 HSm
  generalize w6.drewN kd = w7 at *
  obtain ⟨cd, hcd⟩ : ∃ cd : Bool, cd = decide (q = 0 ∧ k < t.size) := ⟨_, rfl⟩
  have Hcd : Hid (cd = true ↔ (q = 0 ∧ k < t.size)) := Lib.hid (by rw [hcd]; exact decide_eq_true_iff)
  clear hcd HS1 HS2 HN HO1 HO2 C0 C1 C2
  go_upto_region 9 with (fail)
  go_cut [87] (fun c wx => c = .bool cd ∧ wx = w7)
  case first =>
    by_cases d1 : q = 0
    · subst d1
      by_cases d2 : k < t.size
      · obtain rfl : cd = true := Hcd.out.2 ⟨rfl, d2⟩
        go_wp2_with fail
        go_meet
        case rel => exact ⟨by first | rfl | (simp; omega), rfl⟩
      · obtain rfl : cd = false := by cases cd; rfl; exact absurd (Hcd.out.1 rfl).2 d2
        go_wp2_with fail
        go_meet
        case rel => exact ⟨by first | rfl | (simp; omega), rfl⟩
    · obtain rfl : cd = false := by cases cd; rfl; exact absurd (Hcd.out.1 rfl).1 d1
      have d3 : ((q : Int) == 0) = false := by simp; omega
      go_wp2_with fail
      go_meet
      case rel => exact ⟨by first | rfl | (simp; omega), rfl⟩
  obtain ⟨rfl, hwc⟩ := hcut
  subst hwc
  generalize wc = w7 at *
  go_upto_if 87 with (fail)
  go_cut [10, 12] (fun v10 v12 wx => v10 = .string (bs y) ∧ v12 = .int .i64 (r) ∧ wx = w7)
  case first =>
    cases cd with
    | true =>
      obtain ⟨rfl, rfl⟩ := Hyr.out.1 (Hcd.out.1 rfl)
      go_wp2_with fail
      go_meet
      case rel => exact ⟨rfl, rfl, rfl⟩
    | false =>
      obtain ⟨rfl, rfl⟩ := Hyr.out.2 (fun h => by have := Hcd.out.2 h; cases this)
      go_wp2_with fail
      go_meet
      case rel => exact ⟨rfl, rfl, rfl⟩
  obtain ⟨rfl, rfl, hwc⟩ := hcut
  subst hwc
  generalize wc = w7 at *
  go_wp2_with fail
  refine (HM1.out _ _ (by exact Sl.lit (Blk.new' (by simp)) (by decide) rfl)).mono ?_; rintro e w8 ⟨rfl, rfl⟩
  have hB8 := hB7.alloc hB7.size (.cells #[.string c, .string d] 9)
  clear hB7
  generalize w7.alloc (.cells #[.string c, .string d] 9) = w8 at *
  go_wp2_with fail
  refine (HM2.out _).mono ?_; rintro e w9 ⟨rfl, hb⟩
  have hB9 := hB8.trans (hb.mono hB8.size)
  clear hB8 hb
  go_wp2_with fail
  refine (HF1.out _ _ (by exact Sl.lit (Blk.new' (by simp)) (by decide) rfl) (by intro l c h; cases h)).mono ?_; rintro e w10 ⟨rfl, hb⟩
  have hB10 := (hB9.alloc hB9.size (.cells #[.string c, .string d] 9)).trans (hb.mono (Nat.le_trans hB9.size (by simp)))
  clear hB9 hb
  go_wp2_with fail
  refine (HF2.out _).mono ?_; rintro e w11 ⟨rfl, hb⟩
  have hB11 := hB10.trans (hb.mono hB10.size)
  go_wp2_with fail
  go_ret
  exact ⟨rfl, hB11⟩
namespace SealOpens
open Go.ChangeShapes Go.WideShapes Go.ChangeAt Go.RowKit
set_option linter.unusedVariables false
theorem own : ownKnob Try.prog.godebug = none := by kernel_rfl
theorem laidOut : laidOutB Try.prog = true := by kernel_rfl
set_option maxRecDepth 100000 in
theorem lifted (os : Os) (started : os.Started) (H : Type) (enc : TypeId × Value → H) :
    ReturnsInHanded {} Try.checked os 8 .any (Rows.sealOpensSpec.pre6 enc Try.prog Try.f8 Rows.sealOpensRow.domain false) (Rows.sealOpensSpec.post enc Try.prog Try.f8 false true false false) := by
  refine returnsInHanded_of_change (C := Try.checked) own started (by kernel_rfl) Try.func8
    (ChangeSpec.witness6 (enc := enc) (C := Try.checked) false ⟨#[], #[.string ⟨#[]⟩, .string ⟨#[]⟩, .string ⟨#[]⟩], []⟩ 8 (by kernel_rfl) (by kernel_rfl) (by kernel_rfl) (by kernel_rfl)) ?_
  intro W base args ds gs before hval0 hW hcnd _
  have hval : ∀ (j : Nat) t v, Try.f8.params[j]? = some t → args[j]? = some v → Value.okWide Try.prog W .any base t v := hval0
  have hW' := hW
  obtain ⟨p, q, hA0, hV, rfl, hfz, hnd⟩ := hW
  have hA : DataW.TrodAll enc Try.prog W 0 (fun _ => true) true Try.f8.params.toList args.toList ds p := hA0
  rw [Try.params8] at hA hval
  obtain ⟨v0, vs0, d0, ds0, p0, q0, hargs, rfl, rfl, h0, r0⟩ := trodAll_cons hA
  obtain ⟨v1, vs1, d1, ds1, p1, q1, rfl, rfl, rfl, h1, r1⟩ := trodAll_cons r0
  obtain ⟨v2, vs2, d2, ds2, p2, q2, rfl, rfl, rfl, h2, r2⟩ := trodAll_cons r1
  obtain ⟨rfl, rfl, rfl⟩ := trodAll_nil r2
  obtain rfl : args = #[v0, v1, v2] := by cases args; simp_all
  obtain ⟨rfl, rfl⟩ := trodVars_none hV
  have lt0 : ∀ x ∈ p0, x.block < W.heap.size := by obtain ⟨m, hm⟩ := h0; exact DataW.trod_lt m _ _ _ hm
  obtain ⟨x0, w0⟩ := arg_open (Kd.str) h0 (hval 0 _ v0 rfl rfl) (by kernel_rfl)
  have lt1 : ∀ x ∈ p1, x.block < W.heap.size := by obtain ⟨m, hm⟩ := h1; exact DataW.trod_lt m _ _ _ hm
  obtain ⟨x1, w1⟩ := arg_open (Kd.str) h1 (hval 1 _ v1 rfl rfl) (by kernel_rfl)
  have lt2 : ∀ x ∈ p2, x.block < W.heap.size := by obtain ⟨m, hm⟩ := h2; exact DataW.trod_lt m _ _ _ hm
  obtain ⟨x2, w2⟩ := arg_open (Kd.str) h2 (hval 2 _ v2 rfl rfl) (by kernel_rfl)
  clear hA0 hval0
  refine (SealOpens_walk W v0 v1 v2 x0 w0 x1 w1 x2 w2).mono fun e W' ⟨he, bel⟩ => ?_
  subst he
  exact ⟨_, rfl, _, _, _, [], _, [], hW', trodAll_mk1 (shut_bool (by kernel_rfl) _), (trodAll_cons_mk (Below.trod laidOut (by kernel_rfl) (of_decide_eq_true (by kernel_rfl)) h0 bel lt0) (trodAll_cons_mk (Below.trod laidOut (by kernel_rfl) (of_decide_eq_true (by kernel_rfl)) h1 bel lt1) (trodAll_cons_mk (Below.trod laidOut (by kernel_rfl) (of_decide_eq_true (by kernel_rfl)) h2 bel lt2) trodAll_mk0))), rfl, bel.frame _, fun h => by cases h⟩

theorem over : Rows.sealOpensRow.holds Try.pinned (OpenSpec.ofChange Rows.sealOpensSpec) :=
  OpenClaim.holds_of_wide 8 Try.f8 rfl rfl rfl rfl rfl rfl rfl ⟨rfl, rfl, rfl, rfl, rfl⟩ rfl rfl rfl rfl rfl (by kernel_rfl) Try.func8 (by kernel_rfl)
    (of_decide_eq_true (by kernel_rfl)) (by unfold Func.isWrapper; rw [if_neg (of_decide_eq_false (by kernel_rfl))]; exact ⟨rfl, rfl⟩)
    (fun os started H enc _ => lifted os started H enc)
/-- THE STATEMENT. -/
theorem proved : Rows.SealOpensSaid := over
#print axioms proved
end SealOpens
end Go.Proofs.Ytabolnflmhfdhaa
