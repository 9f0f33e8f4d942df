/- MeterFail: what is armed with n works n times, fails once, and works again. No condition. -/
import Derived.Test.YtjphgomidbldiaaArgs
import Derived.Test.YtjphgomidbldiaaL03A
namespace Go.Proofs.Ytjphgomidbldiaa
open Go.RowKit

set_option maxHeartbeats 1000000 in
theorem MeterFail_walk (W : World) (v0 : Value) (x0 : (Kd.int .i64).den) (w0 : (Kd.int .i64).Arg W v0 x0) : Calls Try.prog 3 #[v0] W (Done W) := by
  obtain ⟨n, rfl⟩ : ∃ n : Int, n = x0 := ⟨_, rfl⟩
  obtain ⟨rfl, wn⟩ := w0
  by_cases c : 0 ≤ n ∧ n ≤ 200
  · obtain ⟨c1, c2⟩ := c
    obtain ⟨m, rfl⟩ := Int.eq_ofNat_of_zero_le c1
    clear wn
    (go_enter Try.func3, Try.ntmps3)
    go_wp2_with fail; refine (awake_any _).mono ?_; rintro e w1 ⟨rfl, hB1⟩
    go_wp2_with fail
    have hb2 := Blk.new w1 #[.bool false, .int .i64 (0)] 24
    have hB2 : Below W.heap.size W (w1.alloc (.cells #[.bool false, .int .i64 (0)] 24)) := hB1.alloc hB1.size _
    have hz := hB1.size
    refine (fail_blk _ 0 _ _ _ _ m hb2 rfl (m + 1) #[.bool false, .int .i64 (m + 1)] (by unfold failR; omega) rfl).mono ?_; rintro e w3 ⟨rfl, hb3, hk3⟩; have hB3 := below_one hB2 hk3 hz; clear hk3 hb2 hB2
    go_wp2_with fail
    go_loopw [4] (fun i w => ∃ k : Nat, k ≤ m ∧ i = .int .i64 (k) ∧ Blk w w1.heap.size #[.bool false, .int .i64 (m + 1 - k)] 24 ∧ Below W.heap.size W w) (fun i _ => m - (intOf i).toNat)
    case atStart => exact ⟨0, by omega, rfl, by simpa using hb3, hB3⟩
    case round =>
      obtain ⟨k, hk, rfl, hb4, hB4⟩ := hrel
      clear hb3 hB3
      by_cases hlt : k < m
      · go_wp2_with fail
        refine (try_blk _ 0 _ _ _ false (m + 1 - k) hb4 rfl rfl (by omega) 0 (m + 1 - ↑(k + 1)) #[.bool false, .int .i64 (m + 1 - ↑(k + 1))] (tryR_more (by omega) (by omega)) rfl).mono ?_; rintro e w5 ⟨rfl, hb5, hk5⟩; have hB5 := below_one hB4 hk5 hz; clear hk5 hb4 hB4
        go_wp2_with fail
        exact ⟨⟨k + 1, by omega, by go_num, hb5, hB5⟩, by simp [intOf]; omega⟩
      · obtain rfl : k = m := by omega
        go_wp2_with fail
        refine (try_blk _ 0 _ _ _ false (k + 1 - k) hb4 rfl rfl (by omega) 8 0 #[.bool false, .int .i64 (0)] (tryR_one (by omega)) rfl).mono ?_; rintro e w5 ⟨rfl, hb5, hk5⟩; have hB5 := below_one hB4 hk5 hz; clear hk5 hb4 hB4
        go_wp2_with fail; refine (try_blk _ 0 _ _ _ false 0 hb5 rfl rfl (by omega) 0 0 #[.bool false, .int .i64 (0)] (by decide) rfl).mono ?_; rintro e w6 ⟨rfl, hb6, hk6⟩; have hB6 := below_one hB5 hk6 hz; clear hk6 hb5 hB5
        go_wp2_with fail; refine (lost_blk _ 0 _ _ _ false hb6 rfl).mono ?_; rintro e w7 ⟨rfl, hb7, hk7⟩; have hB7 := below_one hB6 hk7 hz; clear hk7 hb6 hB6
        go_wp2_with fail
        go_ret
        exact ⟨rfl, hB7⟩
  · (go_enter Try.func3, Try.ntmps3)
    go_wp2_with fail; refine (awake_any _).mono ?_; rintro e w1 ⟨rfl, hB1⟩
    go_wp2_with fail
    all_goals
      have hz := hB1.size
      refine (awake_any _).mono ?_; rintro e w2 ⟨rfl, hB2⟩
      go_wp2_with fail
      go_ret
      exact ⟨rfl, hB1.trans (hB2.mono hz)⟩
namespace MeterFail
open Go.ChangeShapes Go.WideShapes Go.ChangeAt Go.RowKit
set_option linter.unusedVariables false
theorem own : ownKnob Try.prog.godebug = none := by kernel_rfl
theorem laidOut : laidOutB Try.prog = true := by kernel_rfl
set_option maxRecDepth 100000 in
theorem lifted (os : Os) (started : os.Started) (H : Type) (enc : TypeId × Value → H) :
    ReturnsInHanded {} Try.checked os 3 .any (Rows.meterFailSpec.pre6 enc Try.prog Try.f3 Rows.meterFailRow.domain false) (Rows.meterFailSpec.post enc Try.prog Try.f3 false true false false) := by
  refine returnsInHanded_of_change (C := Try.checked) own started (by kernel_rfl) Try.func3
    (ChangeSpec.witness6 (enc := enc) (C := Try.checked) false ⟨#[], #[.int .i64 0], []⟩ 8 (by kernel_rfl) (by kernel_rfl) (by kernel_rfl) (by kernel_rfl)) ?_
  intro W base args ds gs before hval0 hW hcnd _
  have hval : ∀ (j : Nat) t v, Try.f3.params[j]? = some t → args[j]? = some v → Value.okWide Try.prog W .any base t v := hval0
  have hW' := hW
  obtain ⟨p, q, hA0, hV, rfl, hfz, hnd⟩ := hW
  have hA : DataW.TrodAll enc Try.prog W 0 (fun _ => true) true Try.f3.params.toList args.toList ds p := hA0
  rw [Try.params3] at hA hval
  obtain ⟨v0, vs0, d0, ds0, p0, q0, hargs, rfl, rfl, h0, r0⟩ := trodAll_cons hA
  obtain ⟨rfl, rfl, rfl⟩ := trodAll_nil r0
  obtain rfl : args = #[v0] := by cases args; simp_all
  obtain ⟨rfl, rfl⟩ := trodVars_none hV
  have lt0 : ∀ x ∈ p0, x.block < W.heap.size := by obtain ⟨m, hm⟩ := h0; exact DataW.trod_lt m _ _ _ hm
  obtain ⟨x0, w0⟩ := arg_open (Kd.int .i64) h0 (hval 0 _ v0 rfl rfl) (by kernel_rfl)
  clear hA0 hval0
  refine (MeterFail_walk W v0 x0 w0).mono fun e W' ⟨he, bel⟩ => ?_
  subst he
  exact ⟨_, rfl, _, _, _, [], _, [], hW', trodAll_mk1 (shut_bool (by kernel_rfl) _), (trodAll_cons_mk (Below.trod laidOut (by kernel_rfl) (of_decide_eq_true (by kernel_rfl)) h0 bel lt0) trodAll_mk0), rfl, bel.frame _, fun h => by cases h⟩

theorem over : Rows.meterFailRow.holds Try.pinned (OpenSpec.ofChange Rows.meterFailSpec) :=
  OpenClaim.holds_of_wide 3 Try.f3 rfl rfl rfl rfl rfl rfl rfl ⟨rfl, rfl, rfl, rfl, rfl⟩ rfl rfl rfl rfl rfl (by kernel_rfl) Try.func3 (by kernel_rfl)
    (of_decide_eq_true (by kernel_rfl)) (by unfold Func.isWrapper; rw [if_neg (of_decide_eq_false (by kernel_rfl))]; exact ⟨rfl, rfl⟩)
    (fun os started H enc _ => lifted os started H enc)
/-- THE STATEMENT. -/
theorem proved : Rows.MeterFailSaid := over
#print axioms proved
end MeterFail
end Go.Proofs.Ytjphgomidbldiaa
