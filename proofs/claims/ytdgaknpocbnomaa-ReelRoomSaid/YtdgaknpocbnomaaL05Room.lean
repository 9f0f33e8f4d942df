/- Blocks come until it is full: the statement ReelRoom holds of all arguments. No condition. -/
import Derived.Test.YtdgaknpocbnomaaL05A
set_option linter.unusedSimpArgs false
set_option linter.unusedVariables false
namespace Go.Proofs.Ytdgaknpocbnomaa
open Go.RowKit
set_option maxHeartbeats 2000000
set_option maxRecDepth 100000

theorem ReelRoom_walk (W : World) (v0 v1 : Value) (x0 : (Kd.int .i64).den) (w0 : (Kd.int .i64).Arg W v0 x0) (x1 : (Kd.slice .str).den) (w1 : (Kd.slice .str).Arg W v1 x1) :
    Calls Try.prog 3 #[v0, v1] W (Done W) := by
  obtain ⟨R, rfl⟩ : ∃ R : Int, R = x0 := ⟨_, rfl⟩
  obtain ⟨xs, rfl⟩ : ∃ xs : List ByteArray, xs = x1 := ⟨_, rfl⟩
  obtain ⟨rfl, hwR⟩ := w0
  obtain ⟨hR1, hR2⟩ := wf_i64 hwR
  obtain ⟨ao, ca, rfl, hla, hsa, _, hpa⟩ := strs_arg w1
  clear w1
  generalize hlen : xs.length = len at *
  have Hlen := Lib.hid hlen
  clear hlen
  (go_enter Try.func3, Try.ntmps3)
  go_wp2_with fail
  refine (awake_any _).mono ?_; rintro e w1 ⟨rfl, hB1⟩
  by_cases c : 0 ≤ R ∧ R ≤ 300
  · obtain ⟨c1, c2⟩ := c
    go_wp2_with fail
    refine (rv_New R R (by omega) (by omega) hB1).mono ?_; rintro e w2 ⟨b, base, rfl, hV⟩
    rw [new_at] at hV
    go_wp2_with fail
    go_loopw [6, 7, 8] (fun u n i wr => ∃ (j : Nat) (L : List Bk) (U : Int), u = .int .i64 (U) ∧ n = .int .i64 ((L.length : Nat)) ∧ i = .int .i64 (j) ∧ j ≤ 30 ∧ L.length ≤ j ∧ 0 ≤ U ∧ U ≤ R ∧ lastTorn L = false ∧ RV W wr base b (Vol.at R U L 0 0)) (fun _ _ i _ => 30 - (intOf i).toNat)
    case atStart => exact ⟨0, [], 0, rfl, rfl, rfl, by omega, Nat.le_refl _, Int.le_refl _, c1, rfl, hV⟩
    case round =>
      obtain ⟨j, L, U, rfl, rfl, rfl, hj, hL, hU1, hU2, ht, hV⟩ := hrel
      by_cases d : j < len ∧ j < 30
      · obtain ⟨d1, d2⟩ := d
        obtain ⟨bb, off, rfl, hbW, hca⟩ := hpa (by omega)
        have hjx : j < xs.length := by have := Hlen.out; omega
        have c1 : wr.cell? ⟨bb, off + j, none⟩ = some (.string xs[j]) := (hV.bel.cell (p := ⟨bb, off + j, none⟩) hbW).trans (hca j xs[j] (List.getElem?_eq_getElem hjx))
        have cut := Lib.hid (cut_any xs[j] 60 60 rfl (bs (xs[j].data.toList.take 60)) rfl (hsa _ (List.getElem_mem hjx)))
        have hcs := cut_size xs[j] 60
        generalize bs (xs[j].data.toList.take 60) = t at *
        generalize xs[j] = sx at *
        have i1 : (j : Int) < 30 := by omega
        clear hca
        go_wp2_with fail
        refine (cut.out _).mono ?_; rintro e wq ⟨rfl, rfl⟩
        go_wp2_with fail
        refine (rv_Write hV t (by omega) (by simp only [Vol.at]; omega)).mono ?_; rintro e w4 ⟨rfl, hV4⟩
        by_cases f : (t.size : Int) + 4 ≤ R - U
        · rw [write_fits R U L 0 0 ⟨t, false, false⟩ ht f] at hV4 ⊢
          have f2 : U + (t.size : Int) + 4 ≤ R := by omega
          have HU := Lib.hid (rv_Used hV4)
          go_wp2_with fail
          refine HU.out.mono ?_; rintro e w5 ⟨k, rfl, rfl⟩
          have hV5 := hV4.drewN k
          have HL := Lib.hid (rv_Len hV5)
          have HV5 := Lib.hid hV5
          clear hV5 hV4 HU hV
          simp only [Vol.at, List.length_append, List.length_singleton] at HL ⊢
          go_wp2_with fail
          refine HL.out.mono ?_; rintro e w6 ⟨rfl, rfl⟩
          go_wp2_with fail
          refine ⟨⟨j + 1, L ++ [⟨t, false, false⟩], U + ((t.size : Int) + 4), rfl, (by simp), by go_num, by omega, by simp; omega, by omega, by omega, lastTorn_snoc L _, HV5.out⟩, by simp [intOf]; omega⟩
        · rw [write_full R U L 0 0 ⟨t, false, false⟩ ht f] at hV4 ⊢
          have f2 : R < U + (t.size : Int) + 4 := by omega
          have HU := Lib.hid (rv_Used hV4)
          go_wp2_with fail
          refine HU.out.mono ?_; rintro e w5 ⟨k, rfl, rfl⟩
          have hV5 := hV4.drewN k
          have HL := Lib.hid (rv_Len hV5)
          have HV5 := Lib.hid hV5
          clear hV5 hV4 HU hV
          simp only [Vol.at] at HL ⊢
          go_wp2_with fail
          refine HL.out.mono ?_; rintro e w6 ⟨rfl, rfl⟩
          go_wp2_with fail
          refine ⟨⟨j + 1, L, U, rfl, rfl, by go_num, by omega, by omega, by omega, by omega, ht, HV5.out⟩, by simp [intOf]; omega⟩
      · go_wp2_with fail
        all_goals
          go_ret
          exact ⟨rfl, hV.bel⟩
  · by_cases c1 : R < 0
    · go_wp2_with fail
      refine (awake_any _).mono ?_; rintro e w2 ⟨rfl, hB2⟩
      go_wp2_with fail
      go_ret
      exact ⟨rfl, hB1.trans (hB2.mono hB1.size)⟩
    · have c2 : 300 < R := by omega
      go_wp2_with fail
      refine (awake_any _).mono ?_; rintro e w2 ⟨rfl, hB2⟩
      go_wp2_with fail
      go_ret
      exact ⟨rfl, hB1.trans (hB2.mono hB1.size)⟩
namespace ReelRoom
open Go.ChangeShapes Go.WideShapes Go.ChangeAt Go.RowKit
set_option linter.unusedVariables false
theorem own : ownKnob Try.prog.godebug = none := by kernel_rfl
theorem laidOut : laidOutB Try.prog = true := by kernel_rfl
set_option maxRecDepth 100000 in
theorem lifted (os : Os) (started : os.Started) (H : Type) (enc : TypeId × Value → H) :
    ReturnsInHanded {} Try.checked os 3 .any (Rows.reelRoomSpec.pre6 enc Try.prog Try.f3 Rows.reelRoomRow.domain false) (Rows.reelRoomSpec.post enc Try.prog Try.f3 false true false false) := by
  refine returnsInHanded_of_change (C := Try.checked) own started (by kernel_rfl) Try.func3
    (ChangeSpec.witness6 (enc := enc) (C := Try.checked) false ⟨#[], #[.int .i64 0, .slice none 0 0], []⟩ 8 (by kernel_rfl) (by kernel_rfl) (by kernel_rfl) (by kernel_rfl)) ?_
  intro W base args ds gs before hval0 hW hcnd _
  have hval : ∀ (j : Nat) t v, Try.f3.params[j]? = some t → args[j]? = some v → Value.okWide Try.prog W .any base t v := hval0
  have hW' := hW
  obtain ⟨p, q, hA0, hV, rfl, hfz, hnd⟩ := hW
  have hA : DataW.TrodAll enc Try.prog W 0 (fun _ => true) true Try.f3.params.toList args.toList ds p := hA0
  rw [Try.params3] at hA hval
  obtain ⟨v0, vs0, d0, ds0, p0, q0, hargs, rfl, rfl, h0, r0⟩ := trodAll_cons hA
  obtain ⟨v1, vs1, d1, ds1, p1, q1, rfl, rfl, rfl, h1, r1⟩ := trodAll_cons r0
  obtain ⟨rfl, rfl, rfl⟩ := trodAll_nil r1
  obtain rfl : args = #[v0, v1] := by cases args; simp_all
  obtain ⟨rfl, rfl⟩ := trodVars_none hV
  have lt0 : ∀ x ∈ p0, x.block < W.heap.size := by obtain ⟨m, hm⟩ := h0; exact DataW.trod_lt m _ _ _ hm
  obtain ⟨x0, w0⟩ := arg_open (Kd.int .i64) h0 (hval 0 _ v0 rfl rfl) (by kernel_rfl)
  have lt1 : ∀ x ∈ p1, x.block < W.heap.size := by obtain ⟨m, hm⟩ := h1; exact DataW.trod_lt m _ _ _ hm
  obtain ⟨x1, w1⟩ := arg_open (Kd.slice .str) h1 (hval 1 _ v1 rfl rfl) (by kernel_rfl)
  clear hA0 hval0
  refine (ReelRoom_walk W v0 v1 x0 w0 x1 w1).mono fun e W' ⟨he, bel⟩ => ?_
  subst he
  exact ⟨_, rfl, _, _, _, [], _, [], hW', trodAll_mk1 (shut_bool (by kernel_rfl) _), (trodAll_cons_mk (Below.trod laidOut (by kernel_rfl) (of_decide_eq_true (by kernel_rfl)) h0 bel lt0) (trodAll_cons_mk (Below.trod laidOut (by kernel_rfl) (of_decide_eq_true (by kernel_rfl)) h1 bel lt1) trodAll_mk0)), rfl, bel.frame _, fun h => by cases h⟩

theorem over : Rows.reelRoomRow.holds Try.pinned (OpenSpec.ofChange Rows.reelRoomSpec) :=
  OpenClaim.holds_of_wide 3 Try.f3 rfl rfl rfl rfl rfl rfl rfl ⟨rfl, rfl, rfl, rfl, rfl⟩ rfl rfl rfl rfl rfl (by kernel_rfl) Try.func3 (by kernel_rfl)
    (of_decide_eq_true (by kernel_rfl)) (by unfold Func.isWrapper; rw [if_neg (of_decide_eq_false (by kernel_rfl))]; exact ⟨rfl, rfl⟩)
    (fun os started H enc _ => lifted os started H enc)
/-- THE STATEMENT. -/
theorem proved : Rows.ReelRoomSaid := over
#print axioms proved
end ReelRoom
end Go.Proofs.Ytdgaknpocbnomaa
