/- MeterPicks: choices and sums. No condition. -/
import Derived.Test.YtjphgomidbldiaaArgs
import Derived.Test.YtjphgomidbldiaaL03A
namespace Go.Proofs.Ytjphgomidbldiaa
open Go.RowKit

set_option maxHeartbeats 1000000 in
theorem MeterPicks_walk (W : World) (v0 v1 v2 : Value) (x0 : (Kd.slice (.int .i64)).den) (w0 : (Kd.slice (.int .i64)).Arg W v0 x0) (x1 : (Kd.int .i64).den) (w1 : (Kd.int .i64).Arg W v1 x1) (x2 : (Kd.int .i64).den) (w2 : (Kd.int .i64).Arg W v2 x2) :
    Calls Try.prog 8 #[v0, v1, v2] W (Done W) := by
  obtain ⟨xs, rfl⟩ : ∃ xs : List Int, xs = x0 := ⟨_, rfl⟩
  obtain ⟨at_, rfl⟩ : ∃ n : Int, n = x1 := ⟨_, rfl⟩
  obtain ⟨n, rfl⟩ : ∃ n : Int, n = x2 := ⟨_, rfl⟩
  obtain ⟨ao, cap, rfl, hlc, hcm, hpos⟩ := row_ints w0
  obtain ⟨rfl, _⟩ := w1
  obtain ⟨rfl, wn⟩ := w2
  have hn := (wf_i64 wn).2
  clear w0 wn
  have hlm : xs.length ≤ 9223372036854775807 := by unfold maxLen at hcm; omega
  generalize hlen : xs.length = len at *
  have Hlen := Lib.hid hlen
  clear hlen
  have Hwf : Hid (∀ x ∈ xs, (Lit.int .i64 x).wf = true) := by
    intro x hx
    obtain ⟨i, hi, rfl⟩ := List.getElem_of_mem hx
    obtain ⟨_, _, _, _, h⟩ := hpos (by have := Hlen.out; omega)
    exact (h i _ (List.getElem?_eq_getElem hi)).2
  have HS : Hid (∀ w', Below W.heap.size W w' → Sl w' (.slice ao len cap) len 1 (xs.map (.int .i64))) := by
    intro w' hB'
    refine ⟨ao, cap, rfl, by omega, hcm, by have := Hlen.out; simp; omega, fun hp => ?_⟩
    obtain ⟨b, off, e, hb, hc⟩ := hpos (by omega)
    refine ⟨b, off, e, Nat.lt_of_lt_of_le hb hB'.size, fun j u hu => ?_⟩
    rw [(hB'.cell (p := ⟨b, off + j, none⟩) hb)]
    simp only [List.getElem?_map, Option.map_eq_some_iff] at hu
    obtain ⟨x, hx, rfl⟩ := hu
    exact (hc j x hx).1
  (go_enter Try.func8, Try.ntmps8)
  go_wp2_with fail
  go_loop [7, 12] (fun n i => ∃ k : Nat, k ≤ len ∧ i = .int .i64 (k) ∧ n = .int .u64 (sumR (xs.take k))) (fun _ i => len - (intOf i).toNat)
  case atStart => exact ⟨0, Nat.zero_le _, rfl, rfl⟩
  case round =>
    obtain ⟨k, hk, rfl, rfl⟩ := hrel
    have hbd := sumR_bd (xs.take k)
    by_cases hlt : k < len
    · obtain ⟨b, off, rfl, hbW, hcell⟩ := hpos (by omega)
      have hkx : k < xs.length := by have := Hlen.out; omega
      have hc := (hcell k xs[k] (List.getElem?_eq_getElem hkx)).1
      have hv := wf_i64 (Hwf.out _ (List.getElem_mem hkx))
      have hs := Lib.hid (sumR_snoc (xs.take k) xs[k])
      have ht := Lib.hid (take_snoc' xs k hkx)
      generalize sumR (xs.take k) = s at *
      generalize xs[k] = v at *
      clear hcell hpos
      obtain ⟨hv1, hv2⟩ := hv
      have Fin : Hid (∀ m : Int, m = sumS s v → (∃ k_1 : Nat, k_1 ≤ len ∧ Value.int IntKind.i64 (↑k + 1) = Value.int IntKind.i64 ↑k_1 ∧ Value.int IntKind.u64 m = Value.int IntKind.u64 (sumR (List.take k_1 xs)))) := by
        intro m hm
        exact ⟨k + 1, by omega, by go_num, by rw [ht.out, hs.out, hm]⟩
      by_cases c : v < 0
      · go_wp2_with fail
        exact ⟨Fin.out _ (by unfold sumS; omega), by simp [intOf]; omega⟩
      · by_cases d : s + v ≤ 4611686018427387904
        · go_wp2_with fail
          exact ⟨Fin.out _ (by unfold sumS; omega), by simp [intOf]; omega⟩
        · go_wp2_with fail
          exact ⟨Fin.out _ (by unfold sumS; omega), by simp [intOf]; omega⟩
    · obtain rfl : k = len := by omega
      have ht : xs.take k = xs := by rw [← Hlen.out]; exact List.take_length
      rw [ht]
      rw [ht] at hbd
      clear ht hpos
      go_wp2_with fail
      refine (awake_any _).mono ?_; rintro e w2 ⟨rfl, hB2⟩
      go_wp2_with fail
      refine (meter_pick _ k xs _ _ _ (by exact HS.out _ hB2) Hwf.out hn).mono ?_; rintro e w3 ⟨d1, rfl, rfl⟩
      go_wp2_with fail
      refine (ref_pick _ k xs _ _ _ (by exact HS.out _ (below_drew hB2 _)) Hwf.out hn).mono ?_; rintro e w3 ⟨d2, rfl, rfl⟩
      go_wp2_with fail
      refine (meter_sum _ k xs _ (by exact HS.out _ (below_drew hB2 _))).mono ?_; rintro e w3 ⟨d3, rfl, rfl⟩
      generalize sumR xs = s at *
      go_wp2_with fail
      refine (meter_sum _ 0 [] _ (by exact Sl.nil _ _)).mono ?_; rintro e w3 ⟨d4, rfl, rfl⟩
      rw [show sumR [] = 0 from rfl]
      go_wp2_with fail
      go_ret
      exact ⟨rfl, below_drew hB2 _⟩
namespace MeterPicks
open Go.ChangeShapes Go.WideShapes Go.ChangeAt Go.RowKit
set_option linter.unusedVariables false
theorem own : ownKnob Try.prog.godebug = none := by kernel_rfl
theorem laidOut : laidOutB Try.prog = true := by kernel_rfl
set_option maxRecDepth 100000 in
theorem lifted (os : Os) (started : os.Started) (H : Type) (enc : TypeId × Value → H) :
    ReturnsInHanded {} Try.checked os 8 .any (Rows.meterPicksSpec.pre6 enc Try.prog Try.f8 Rows.meterPicksRow.domain false) (Rows.meterPicksSpec.post enc Try.prog Try.f8 false true false false) := by
  refine returnsInHanded_of_change (C := Try.checked) own started (by kernel_rfl) Try.func8
    (ChangeSpec.witness6 (enc := enc) (C := Try.checked) false ⟨#[], #[.slice none 0 0, .int .i64 0, .int .i64 0], []⟩ 8 (by kernel_rfl) (by kernel_rfl) (by kernel_rfl) (by kernel_rfl)) ?_
  intro W base args ds gs before hval0 hW hcnd _
  have hval : ∀ (j : Nat) t v, Try.f8.params[j]? = some t → args[j]? = some v → Value.okWide Try.prog W .any base t v := hval0
  have hW' := hW
  obtain ⟨p, q, hA0, hV, rfl, hfz, hnd⟩ := hW
  have hA : DataW.TrodAll enc Try.prog W 0 (fun _ => true) true Try.f8.params.toList args.toList ds p := hA0
  rw [Try.params8] at hA hval
  obtain ⟨v0, vs0, d0, ds0, p0, q0, hargs, rfl, rfl, h0, r0⟩ := trodAll_cons hA
  obtain ⟨v1, vs1, d1, ds1, p1, q1, rfl, rfl, rfl, h1, r1⟩ := trodAll_cons r0
  obtain ⟨v2, vs2, d2, ds2, p2, q2, rfl, rfl, rfl, h2, r2⟩ := trodAll_cons r1
  obtain ⟨rfl, rfl, rfl⟩ := trodAll_nil r2
  obtain rfl : args = #[v0, v1, v2] := by cases args; simp_all
  obtain ⟨rfl, rfl⟩ := trodVars_none hV
  have lt0 : ∀ x ∈ p0, x.block < W.heap.size := by obtain ⟨m, hm⟩ := h0; exact DataW.trod_lt m _ _ _ hm
  obtain ⟨x0, w0⟩ := arg_open (Kd.slice (.int .i64)) h0 (hval 0 _ v0 rfl rfl) (by kernel_rfl)
  have lt1 : ∀ x ∈ p1, x.block < W.heap.size := by obtain ⟨m, hm⟩ := h1; exact DataW.trod_lt m _ _ _ hm
  obtain ⟨x1, w1⟩ := arg_open (Kd.int .i64) h1 (hval 1 _ v1 rfl rfl) (by kernel_rfl)
  have lt2 : ∀ x ∈ p2, x.block < W.heap.size := by obtain ⟨m, hm⟩ := h2; exact DataW.trod_lt m _ _ _ hm
  obtain ⟨x2, w2⟩ := arg_open (Kd.int .i64) h2 (hval 2 _ v2 rfl rfl) (by kernel_rfl)
  clear hA0 hval0
  refine (MeterPicks_walk W v0 v1 v2 x0 w0 x1 w1 x2 w2).mono fun e W' ⟨he, bel⟩ => ?_
  subst he
  exact ⟨_, rfl, _, _, _, [], _, [], hW', trodAll_mk1 (shut_bool (by kernel_rfl) _), (trodAll_cons_mk (Below.trod laidOut (by kernel_rfl) (of_decide_eq_true (by kernel_rfl)) h0 bel lt0) (trodAll_cons_mk (Below.trod laidOut (by kernel_rfl) (of_decide_eq_true (by kernel_rfl)) h1 bel lt1) (trodAll_cons_mk (Below.trod laidOut (by kernel_rfl) (of_decide_eq_true (by kernel_rfl)) h2 bel lt2) trodAll_mk0))), rfl, bel.frame _, fun h => by cases h⟩

theorem over : Rows.meterPicksRow.holds Try.pinned (OpenSpec.ofChange Rows.meterPicksSpec) :=
  OpenClaim.holds_of_wide 8 Try.f8 rfl rfl rfl rfl rfl rfl rfl ⟨rfl, rfl, rfl, rfl, rfl⟩ rfl rfl rfl rfl rfl (by kernel_rfl) Try.func8 (by kernel_rfl)
    (of_decide_eq_true (by kernel_rfl)) (by unfold Func.isWrapper; rw [if_neg (of_decide_eq_false (by kernel_rfl))]; exact ⟨rfl, rfl⟩)
    (fun os started H enc _ => lifted os started H enc)
/-- THE STATEMENT. -/
theorem proved : Rows.MeterPicksSaid := over
#print axioms proved
end MeterPicks
end Go.Proofs.Ytjphgomidbldiaa
