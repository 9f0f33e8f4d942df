/- A volume is written at its end alone: the statement ReelEnd holds of all arguments. No condition. -/
import Derived.Test.YtdgaknpocbnomaaL05B
set_option linter.unusedSimpArgs false
set_option linter.unusedVariables false
namespace Go.Proofs.Ytdgaknpocbnomaa
open Go.RowKit
set_option maxHeartbeats 2000000
set_option maxRecDepth 100000

theorem ReelEnd_walk (W : World) (v0 v1 v2 : Value) (x0 : (Kd.slice .str).den) (w0 : (Kd.slice .str).Arg W v0 x0) (x1 : (Kd.int .i64).den) (w1 : (Kd.int .i64).Arg W v1 x1) (x2 : Kd.str.den) (w2 : Kd.str.Arg W v2 x2) :
    Calls Try.prog 4 #[v0, v1, v2] W (Done W) := by
  obtain ⟨a, rfl⟩ : ∃ a : Int, a = x1 := ⟨_, rfl⟩
  obtain ⟨xs, rfl⟩ : ∃ xs : List ByteArray, xs = x0 := ⟨_, rfl⟩
  obtain ⟨s, rfl⟩ : ∃ s : ByteArray, s = x2 := ⟨_, rfl⟩
  obtain ⟨rfl, hwa⟩ := w1
  obtain ⟨hR1, hR2⟩ := wf_i64 hwa
  obtain ⟨rfl, hws⟩ := w2
  have cuts := Lib.hid (cut_any s 30 30 rfl (bs (s.data.toList.take 30)) rfl hws)
  have hcs2 := cut_size s 30
  generalize bs (s.data.toList.take 30) = st at *
  obtain ⟨ao, ca, rfl, hla, hsa, _, hpa⟩ := strs_arg w0
  clear w0
  generalize hlen : xs.length = len at *
  have Hlen := Lib.hid hlen
  clear hlen
  obtain ⟨n, hn, hn2, hn3⟩ : ∃ n : Nat, (if (8 : Int) < (len : Int) then (8 : Int) else (len : Int)) = (n : Int) ∧ n ≤ 8 ∧ n ≤ len := ⟨min len 8, by split <;> omega, by omega, by omega⟩
  (go_enter Try.func4, Try.ntmps4)
  go_wp2_with fail
  refine (rv_New 100000 100000 (by omega) (by omega) (Below.refl _ _)).mono ?_; rintro e w2 ⟨b, base, rfl, hV⟩
  rw [new_at] at hV
  go_wp2_with fail
  refine (awake_any _).mono ?_; rintro e w3 ⟨rfl, hB1⟩
  have hV := hV.below hB1
  go_wp2_with fail
  go_loopw [9] (fun i wr => ∃ (j : Nat) (L : List Bk) (U : Int), i = .int .i64 (j) ∧ j ≤ n ∧ L.length = j ∧ 0 ≤ U ∧ U ≤ 34 * j ∧ lastTorn L = false ∧ RV W wr base b (Vol.at 100000 U L 0 0)) (fun i _ => n - (intOf i).toNat)
  case atStart => exact ⟨0, [], 0, rfl, by omega, rfl, by omega, by omega, rfl, hV⟩
  case round =>
    obtain ⟨j, L, U, rfl, hj, hL, hU1, hU2, ht, hV⟩ := hrel
    by_cases d : j < n
    · obtain ⟨bb, off, rfl, hbW, hca⟩ := hpa (by omega)
      have hjx : j < xs.length := by have := Hlen.out; omega
      have c1 : wr.cell? ⟨bb, off + j, none⟩ = some (.string xs[j]) := (hV.bel.cell (p := ⟨bb, off + j, none⟩) hbW).trans (hca j xs[j] (List.getElem?_eq_getElem hjx))
      have cut := Lib.hid (cut_any xs[j] 30 30 rfl (bs (xs[j].data.toList.take 30)) rfl (hsa _ (List.getElem_mem hjx)))
      have hcs := cut_size xs[j] 30
      generalize bs (xs[j].data.toList.take 30) = t at *
      generalize xs[j] = sx at *
      have i2 : (j : Int) < len := by omega
      clear hca hn
      go_wp2_with fail
      refine (cut.out _).mono ?_; rintro e wq ⟨rfl, rfl⟩
      go_wp2_with fail
      refine (rv_Write hV t (by omega) (by simp only [Vol.at]; omega)).mono ?_; rintro e w4 ⟨rfl, hV4⟩
      rw [write_fits 100000 U L 0 0 ⟨t, false, false⟩ ht (by simp only; omega)] at hV4 ⊢
      go_wp2_with fail
      refine ⟨⟨j + 1, L ++ [⟨t, false, false⟩], U + ((t.size : Int) + 4), by go_num, by omega, by simp; omega, by omega, by omega, lastTorn_snoc L _, hV4⟩, by simp [intOf]; omega⟩
    · obtain rfl : j = n := by omega
      clear hn
      subst hL
      by_cases c : a < 0 ∨ (L.length : Int) < a
      · have HS := Lib.hid (rv_Seek hV a ⟨hR1, hR2⟩)
        rw [at_stand, seek_bad _ _ _ _ _ _ _ c] at HS
        by_cases c1 : a < 0
        · go_wp2_with fail
          refine HS.out.mono ?_; rintro e w4 ⟨rfl, hV4⟩
          have HA := Lib.hid (rv_At hV4)
          have hb4 := hV4.bel
          clear hV4 hV HS
          go_wp2_with fail
          refine HA.out.mono ?_; rintro e w5 ⟨rfl, rfl⟩
          simp only [Vol.stand]
          go_wp2_with fail
          go_ret
          exact ⟨rfl, hb4⟩
        · have c2 : (L.length : Int) < a := by omega
          go_wp2_with fail
          refine HS.out.mono ?_; rintro e w4 ⟨rfl, hV4⟩
          have HA := Lib.hid (rv_At hV4)
          have hb4 := hV4.bel
          clear hV4 hV HS
          go_wp2_with fail
          refine HA.out.mono ?_; rintro e w5 ⟨rfl, rfl⟩
          simp only [Vol.stand]
          go_wp2_with fail
          go_ret
          exact ⟨rfl, hb4⟩
      · obtain ⟨a, rfl⟩ := Int.eq_ofNat_of_zero_le (by omega : 0 ≤ a)
        have ca : a ≤ L.length := by omega
        have HU := Lib.hid (rv_Used hV)
        go_wp2_with fail
        refine HU.out.mono ?_; rintro e w4 ⟨k, rfl, rfl⟩
        have HS := Lib.hid (rv_Seek (hV.drewN k) a ⟨hR1, hR2⟩)
        rw [at_stand, seek_ok _ _ _ _ _ _ _ ca] at HS
        clear hV HU
        simp only [Vol.at]
        go_wp2_with fail
        refine HS.out.mono ?_; rintro e w4 ⟨rfl, hV4⟩
        clear HS
        go_wp2_with fail
        refine (cuts.out _).mono ?_; rintro e wq ⟨rfl, rfl⟩
        have HW := Lib.hid (rv_Write hV4 st (by omega) (by simp only [Vol.stand]; omega))
        go_wp2_with fail
        by_cases c3 : a < L.length
        · rw [write_far _ _ _ _ _ _ _ (by omega)] at HW
          refine HW.out.mono ?_; rintro e w5 ⟨rfl, hV5⟩
          have HL := Lib.hid (rv_Len hV5)
          have HU := Lib.hid (rv_Used hV5)
          have hb5 := hV5.bel
          clear hV4 hV5 HW
          simp only [Vol.stand] at HL HU
          go_wp2_with fail
          refine HL.out.mono ?_; rintro e w6 ⟨rfl, rfl⟩
          go_wp2_with fail
          refine HU.out.mono ?_; rintro e w6 ⟨k2, rfl, rfl⟩
          go_wp2_with fail
          go_ret
          exact ⟨rfl, below_drew hb5 _⟩
        · obtain rfl : a = L.length := by omega
          rw [stand_at rfl, write_fits 100000 U L 0 0 ⟨st, false, false⟩ ht (by simp only; omega)] at HW
          refine HW.out.mono ?_; rintro e w5 ⟨rfl, hV5⟩
          have HL := Lib.hid (rv_Len hV5)
          have hb5 := hV5.bel
          clear hV4 hV5 HW
          simp only [Vol.at, List.length_append, List.length_singleton] at HL
          go_wp2_with fail
          refine HL.out.mono ?_; rintro e w6 ⟨rfl, rfl⟩
          go_wp2_with fail
          go_ret
          exact ⟨rfl, hb5⟩
namespace ReelEnd
open Go.ChangeShapes Go.WideShapes Go.ChangeAt Go.RowKit
set_option linter.unusedVariables false
theorem own : ownKnob Try.prog.godebug = none := by kernel_rfl
theorem laidOut : laidOutB Try.prog = true := by kernel_rfl
set_option maxRecDepth 100000 in
theorem lifted (os : Os) (started : os.Started) (H : Type) (enc : TypeId × Value → H) :
    ReturnsInHanded {} Try.checked os 4 .any (Rows.reelEndSpec.pre6 enc Try.prog Try.f4 Rows.reelEndRow.domain false) (Rows.reelEndSpec.post enc Try.prog Try.f4 false true false false) := by
  refine returnsInHanded_of_change (C := Try.checked) own started (by kernel_rfl) Try.func4
    (ChangeSpec.witness6 (enc := enc) (C := Try.checked) false ⟨#[], #[.slice none 0 0, .int .i64 0, .string ⟨#[]⟩], []⟩ 8 (by kernel_rfl) (by kernel_rfl) (by kernel_rfl) (by kernel_rfl)) ?_
  intro W base args ds gs before hval0 hW hcnd _
  have hval : ∀ (j : Nat) t v, Try.f4.params[j]? = some t → args[j]? = some v → Value.okWide Try.prog W .any base t v := hval0
  have hW' := hW
  obtain ⟨p, q, hA0, hV, rfl, hfz, hnd⟩ := hW
  have hA : DataW.TrodAll enc Try.prog W 0 (fun _ => true) true Try.f4.params.toList args.toList ds p := hA0
  rw [Try.params4] at hA hval
  obtain ⟨v0, vs0, d0, ds0, p0, q0, hargs, rfl, rfl, h0, r0⟩ := trodAll_cons hA
  obtain ⟨v1, vs1, d1, ds1, p1, q1, rfl, rfl, rfl, h1, r1⟩ := trodAll_cons r0
  obtain ⟨v2, vs2, d2, ds2, p2, q2, rfl, rfl, rfl, h2, r2⟩ := trodAll_cons r1
  obtain ⟨rfl, rfl, rfl⟩ := trodAll_nil r2
  obtain rfl : args = #[v0, v1, v2] := by cases args; simp_all
  obtain ⟨rfl, rfl⟩ := trodVars_none hV
  have lt0 : ∀ x ∈ p0, x.block < W.heap.size := by obtain ⟨m, hm⟩ := h0; exact DataW.trod_lt m _ _ _ hm
  obtain ⟨x0, w0⟩ := arg_open (Kd.slice .str) h0 (hval 0 _ v0 rfl rfl) (by kernel_rfl)
  have lt1 : ∀ x ∈ p1, x.block < W.heap.size := by obtain ⟨m, hm⟩ := h1; exact DataW.trod_lt m _ _ _ hm
  obtain ⟨x1, w1⟩ := arg_open (Kd.int .i64) h1 (hval 1 _ v1 rfl rfl) (by kernel_rfl)
  have lt2 : ∀ x ∈ p2, x.block < W.heap.size := by obtain ⟨m, hm⟩ := h2; exact DataW.trod_lt m _ _ _ hm
  obtain ⟨x2, w2⟩ := arg_open (Kd.str) h2 (hval 2 _ v2 rfl rfl) (by kernel_rfl)
  clear hA0 hval0
  refine (ReelEnd_walk W v0 v1 v2 x0 w0 x1 w1 x2 w2).mono fun e W' ⟨he, bel⟩ => ?_
  subst he
  exact ⟨_, rfl, _, _, _, [], _, [], hW', trodAll_mk1 (shut_bool (by kernel_rfl) _), (trodAll_cons_mk (Below.trod laidOut (by kernel_rfl) (of_decide_eq_true (by kernel_rfl)) h0 bel lt0) (trodAll_cons_mk (Below.trod laidOut (by kernel_rfl) (of_decide_eq_true (by kernel_rfl)) h1 bel lt1) (trodAll_cons_mk (Below.trod laidOut (by kernel_rfl) (of_decide_eq_true (by kernel_rfl)) h2 bel lt2) trodAll_mk0))), rfl, bel.frame _, fun h => by cases h⟩

theorem over : Rows.reelEndRow.holds Try.pinned (OpenSpec.ofChange Rows.reelEndSpec) :=
  OpenClaim.holds_of_wide 4 Try.f4 rfl rfl rfl rfl rfl rfl rfl ⟨rfl, rfl, rfl, rfl, rfl⟩ rfl rfl rfl rfl rfl (by kernel_rfl) Try.func4 (by kernel_rfl)
    (of_decide_eq_true (by kernel_rfl)) (by unfold Func.isWrapper; rw [if_neg (of_decide_eq_false (by kernel_rfl))]; exact ⟨rfl, rfl⟩)
    (fun os started H enc _ => lifted os started H enc)
/-- THE STATEMENT. -/
theorem proved : Rows.ReelEndSaid := over
#print axioms proved
end ReelEnd
end Go.Proofs.Ytdgaknpocbnomaa
