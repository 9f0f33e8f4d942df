/- Skip goes from mark to mark: the statement ReelMarks holds of all arguments. No condition. -/
import Derived.Test.YtdgaknpocbnomaaL05B
import Derived.Test.YtdgaknpocbnomaaReel11
set_option linter.unusedSimpArgs false
set_option linter.unusedVariables false
namespace Go.Proofs.Ytdgaknpocbnomaa
open Go.RowKit
set_option maxHeartbeats 4000000
set_option maxRecDepth 100000

theorem ei_int : EI Try.prog 40 3 (.int .i64 0) 1 8 := EI.mk' Try.underlying40 (by kernel_rfl) rfl (by decide)
theorem skip_some (R U : Int) (L : List Bk) (sf : Nat) (er : Int) (p m : Nat) (h : markFrom (L.drop p) p = some m) : (Vol.stand R U L sf er p).skip = (0, Vol.stand R U L sf er m) := by
  have e2 : tryR false 0 = (0, 0) := rfl
  unfold Vol.skip Vol.stand
  simp [e2, h]
theorem skip_none (R U : Int) (L : List Bk) (sf : Nat) (er : Int) (p : Nat) (h : markFrom (L.drop p) p = none) : (Vol.stand R U L sf er p).skip = (2, Vol.stand R U L sf er p) := by
  have e2 : tryR false 0 = (0, 0) := rfl
  unfold Vol.skip Vol.stand
  simp [e2, h]
def natv (E : List Nat) : List Value := E.map (fun m => .int .i64 (m : Nat))
theorem ReelMarks_walk (W : World) (v0 : Value) (x0 : (Kd.slice (.int .i64)).den) (w0 : (Kd.slice (.int .i64)).Arg W v0 x0) :
    Calls Try.prog 5 #[v0] W (Done W) := by
  obtain ⟨xs, rfl⟩ : ∃ xs : List Int, xs = x0 := ⟨_, rfl⟩
  obtain ⟨ao, ca, rfl, hlc, hcm, hpos⟩ := row_ints w0
  clear w0
  unfold maxLen at hcm
  generalize hlen : xs.length = len at *
  have Hlen := Lib.hid hlen
  clear hlen
  (go_enter Try.func5, Try.ntmps5)
  go_wp2_with fail
  refine (rv_New 100000 100000 (by omega) (by omega) (Below.refl _ _)).mono ?_; rintro e w2 ⟨b, base, rfl, hV⟩
  rw [new_at] at hV
  go_wp2_with fail
  refine (awake_any _).mono ?_; rintro e w3 ⟨rfl, hB1⟩
  have hV3 := hV.below hB1
  have hV4 := hV3.below (Below.alloc (Below.refl _ _) (Nat.le_refl _) (.cells #[] 3))
  have hW3 := hV3.bel.size
  clear hV hB1
  go_wp2_with fail
  go_loopw [4, 5] (fun ve i wr => ∃ (j : Nat) (L : List Bk) (U : Int) (E : List Nat), i = .int .i64 (j) ∧ j ≤ 6 ∧ L.length ≤ 4 * j ∧ E.length ≤ j ∧ 0 ≤ U ∧ U ≤ 5 * L.length ∧ lastTorn L = false ∧ endsOf L 0 = E ∧ E.getLast?.getD 0 = L.length ∧ wr.ownsRow W.heap.size 3 1 ve E.length (natv E) ∧ RV W wr base b (Vol.at 100000 U L 0 0)) (fun _ i _ => 6 - (intOf i).toNat)
  case atStart => exact ⟨0, [], 0, [], rfl, by omega, by simp, by simp, by omega, by simp, rfl, rfl, rfl, World.ownsRow_lit _ #[] 0 hW3 (by decide) rfl, hV4⟩
  case round =>
    obtain ⟨j, L, U, E, rfl, hj, hL, hEl, hU1, hU2, ht, hE, hEL, hown, hV⟩ := hrel
    clear hV3 hV4
    by_cases d : j < len ∧ j < 6
    · obtain ⟨d1, d2⟩ := d
      obtain ⟨bb, off, rfl, hbW, hca⟩ := hpos (by omega)
      have hjx : j < xs.length := by have := Hlen.out; omega
      obtain ⟨hca1, hcw⟩ := hca j xs[j] (List.getElem?_eq_getElem hjx)
      generalize xs[j] = g at *
      obtain ⟨b1, b2⟩ : -4 < g.tmod 4 ∧ g.tmod 4 < 4 := ⟨by have := Int.lt_tmod_of_pos g (by decide : (0 : Int) < 4); omega, Int.tmod_lt_of_pos g (by decide)⟩
      obtain ⟨M, hM, hM3⟩ : ∃ M : Nat, (g.tmod 4 + 4).tmod 4 = (M : Int) ∧ M ≤ 3 := by
        have h1 : 0 ≤ (g.tmod 4 + 4).tmod 4 := Int.tmod_nonneg _ (by omega)
        have h2 := Int.tmod_lt_of_pos (g.tmod 4 + 4) (by decide : (0 : Int) < 4)
        exact ⟨((g.tmod 4 + 4).tmod 4).toNat, by omega, by omega⟩
      generalize hg4 : g.tmod 4 = g4 at *
      have i1 : (j : Int) < 6 := by omega
      obtain ⟨aoe, cae, rfl, _, _, _, _⟩ := Sl.of_own hown
      clear hca hpos
      go_wp2_with fail
      generalize wr = wa at *
      go_loopw [6] (fun k wq => ∃ (q : Nat) (L : List Bk) (U : Int), k = .int .i64 (q) ∧ q ≤ M ∧ L.length ≤ 4 * j + q ∧ 0 ≤ U ∧ U ≤ 5 * L.length ∧ lastTorn L = false ∧ endsOf L 0 = E ∧ wq.ownsRow W.heap.size 3 1 (.slice aoe E.length cae) E.length (natv E) ∧ RV W wq base b (Vol.at 100000 U L 0 0)) (fun k _ => M - (intOf k).toNat)
      case atStart => exact ⟨0, L, U, rfl, by omega, by omega, hU1, hU2, ht, hE, hown, hV⟩
      clear hL hU1 hU2 ht hE hEL hown hV
      obtain ⟨q, L, U, rfl, hq, hL, hU1, hU2, ht, hE, hown, hV⟩ := hrel
      have c1 : wr.cell? ⟨bb, off + j, none⟩ = some (.int .i64 g) := (hV.bel.cell (p := ⟨bb, off + j, none⟩) hbW).trans hca1
      by_cases dq : q < M
      · have i3 : (q : Int) < M := by omega
        go_wp2_with fail
        refine (rk_Write hV ⟨#[120]⟩ (by decide) (by simp only [Vol.at]; omega)).mono ?_; rintro e w4 ⟨rfl, hV4, hK4⟩
        rw [write_fits 100000 U L 0 0 ⟨⟨#[120]⟩, false, false⟩ ht (by show ((1 : Nat) : Int) + 4 ≤ _; omega)] at hV4 ⊢
        have hown4 := hK4.own _ _ _ _ _ _ (by decide) (by decide) hown
        have hE4 : endsOf (L ++ [⟨⟨#[120]⟩, false, false⟩]) 0 = E := by rw [endsOf_snoc]; simpa using hE
        have hU4 : U + (((⟨#[120]⟩ : ByteArray).size : Int) + 4) ≤ 5 * ((L ++ [(⟨⟨#[120]⟩, false, false⟩ : Bk)]).length : Int) := by
          rw [List.length_append]
          show U + (((1 : Nat) : Int) + 4) ≤ _
          simp only [List.length_singleton]
          omega
        clear hE hown
        go_wp2_with fail
        refine ⟨⟨q + 1, L ++ [⟨⟨#[120]⟩, false, false⟩], U + (((⟨#[120]⟩ : ByteArray).size : Int) + 4), by go_num, by omega, by simp; omega, by omega, hU4, lastTorn_snoc L _, hE4, hown4, hV4⟩, by simp [intOf]; omega⟩
      · obtain rfl : q = M := by omega
        go_wp2_with fail
        refine (rk_Mark hV (by simp only [Vol.at]; omega)).mono ?_; rintro e w4 ⟨rfl, hV4, hK4⟩
        rw [write_fits 100000 U L 0 0 ⟨⟨#[]⟩, true, false⟩ ht (by show ((0 : Nat) : Int) + 4 ≤ _; omega)] at hV4 ⊢
        have hown4 := hK4.own _ _ _ _ _ _ (by decide) (by decide) hown
        have hE4 : endsOf (L ++ [⟨⟨#[]⟩, true, false⟩]) 0 = E ++ [L.length + 1] := by rw [endsOf_snoc, hE]; simp
        have hU4 : U + (((⟨#[]⟩ : ByteArray).size : Int) + 4) ≤ 5 * ((L ++ [(⟨⟨#[]⟩, true, false⟩ : Bk)]).length : Int) := by
          rw [List.length_append]
          show U + (((0 : Nat) : Int) + 4) ≤ _
          simp only [List.length_singleton]
          omega
        have HL := Lib.hid (rv_Len hV4)
        clear hE hown
        simp only [Vol.at, List.length_append, List.length_singleton] at HL
        have HV4 := Lib.hid hV4
        have hWs := hV4.bel.size
        have hbt := hV4.lt
        clear hV4 hV
        go_wp2_with fail
        refine HL.out.mono ?_; rintro e w5 ⟨rfl, rfl⟩
        have hn1 : (E.length + 1) * 8 ≤ 140737488355328 := by omega
        have hn2 : E.length + 1 ≤ maxLen := by unfold maxLen; omega
        go_wp2_with (at_builtin; refine wpl_app rfl rfl ei_int W.heap.size rfl (hown4.alloc _) [.int .i64 (((L.length + 1 : Nat) : Int))] rfl rfl (Blk.new _ _ _) rfl hn1 hn2 (by simp; omega) ?_; intro v' w6 ho6 hk6)
        have hV6 := RV.appended (HV4.out.below (Below.alloc (Below.refl _ _) (Nat.le_refl _) (.cells #[.int .i64 (((L.length + 1 : Nat) : Int))] 3))) (hown4.alloc _) (by decide) (by decide) (Nat.le_refl _) hk6
        refine ⟨⟨j + 1, L ++ [⟨⟨#[]⟩, true, false⟩], U + (((⟨#[]⟩ : ByteArray).size : Int) + 4), E ++ [L.length + 1], by go_num, by omega, by simp; omega, by simp; omega, by omega, hU4, lastTorn_snoc L _, hE4, by simp, ?_, hV6⟩, by simp [intOf]; omega⟩
        rw [List.length_append]
        unfold natv
        rw [List.map_append]
        exact ho6
    · obtain ⟨aoe, cae, rfl, _, _, _, hsE⟩ := Sl.of_own hown
      have HE := Lib.hid hE
      have HEL := Lib.hid hEL
      have HS := Lib.hid (rk_Seek hV ((0 : Nat) : Int) (by decide))
      rw [at_stand, seek_ok _ _ _ _ _ _ 0 (Nat.zero_le _)] at HS
      clear hE hEL hV hsE hpos
      go_wp2_with fail
      all_goals
        refine HS.out.mono ?_; rintro e w4 ⟨rfl, hV4, hK4⟩
        have hown4 := hK4.own _ _ _ _ _ _ (by decide) (by decide) hown
        clear hown HS
        go_wp2_with fail
        go_loopw [54] (fun i wq => ∃ (k p : Nat), i = .int .i64 (k) ∧ k ≤ E.length ∧ p ≤ L.length ∧ Hid (endsOf (L.drop p) p = E.drop k ∧ p = (E.take k).getLast?.getD 0) ∧ wq.ownsRow W.heap.size 3 1 (.slice aoe E.length cae) E.length (natv E) ∧ RV W wq base b (Vol.stand 100000 U L 0 0 p)) (fun i _ => E.length - (intOf i).toNat)
        case atStart => exact ⟨0, 0, rfl, Nat.zero_le _, Nat.zero_le _, Lib.hid ⟨HE.out, rfl⟩, hown4, hV4⟩
        clear hown4 hV4 hK4
        generalize wr = wa at *
        obtain ⟨k, p, rfl, hk, hp, hI, hown, hV⟩ := hrel
        have HSk := Lib.hid (rk_Skip hV)
        by_cases dk : k < E.length
        · have hdr := List.drop_eq_getElem_cons dk
          obtain ⟨hm1, hm2⟩ := ends_step L p E[k] (E.drop (k + 1)) hp (by rw [hI.out.1, hdr])
          have hmf : markFrom (L.drop p) p = some E[k] := by rw [markFrom_ends, hI.out.1, hdr]; rfl
          have hI2 : Hid (endsOf (L.drop E[k]) E[k] = E.drop (k + 1) ∧ E[k] = (E.take (k + 1)).getLast?.getD 0) := Lib.hid ⟨hm2, by have e9 := take_snoc' E k dk; rw [e9]; simp only [List.getLast?_append, List.getLast?_singleton, Option.some_or, Option.getD_some]⟩
          have hce : (natv E)[k]? = some (.int .i64 ((E[k] : Nat))) := by simp [natv, dk]
          rw [skip_some _ _ _ _ _ _ _ hmf] at HSk
          generalize E[k] = m at *
          obtain ⟨_, _, ev, _, _, _, hs⟩ := Sl.of_own hown
          cases ev
          obtain ⟨g, off, rfl, _, hcell⟩ := hs (by first | omega | (simp only; omega))
          have c1 := hcell _ _ hce
          clear hcell hs hce hdr hmf hm2
          go_wp2_with fail
          refine HSk.out.mono ?_; rintro e w5 ⟨rfl, hV5, hK5⟩
          have hown5 := hK5.own _ _ _ _ _ _ (by decide) (by decide) hown
          have HA := Lib.hid (rv_At hV5)
          clear hV hown HSk c1
          go_wp2_with fail
          refine HA.out.mono ?_; rintro e w6 ⟨rfl, rfl⟩
          simp only [Vol.stand]
          go_wp2_with fail
          refine ⟨⟨k + 1, m, by go_num, by omega, hm1, hI2, hown5, hV5⟩, by simp [intOf]; omega⟩
        · obtain rfl : k = E.length := by omega
          have hi := hI.out
          rw [List.drop_length, List.take_length, HEL.out] at hi
          rw [skip_none _ _ _ _ _ _ (by rw [markFrom_ends, hi.1]; rfl)] at HSk
          obtain ⟨_, rfl⟩ := hi
          go_wp2_with fail
          refine HSk.out.mono ?_; rintro e w5 ⟨rfl, hV5, hK5⟩
          have HA := Lib.hid (rv_At hV5)
          have HL := Lib.hid (rv_Len hV5)
          have hb5 := hV5.bel
          clear hV hown HSk hV5
          go_wp2_with fail
          refine HA.out.mono ?_; rintro e w6 ⟨rfl, rfl⟩
          simp only [Vol.stand]
          go_wp2_with fail
          refine HL.out.mono ?_; rintro e w6 ⟨rfl, rfl⟩
          simp only [Vol.stand]
          go_wp2_with fail
          go_ret
          exact ⟨rfl, hb5⟩
namespace ReelMarks
open Go.ChangeShapes Go.WideShapes Go.ChangeAt Go.RowKit
set_option linter.unusedVariables false
theorem own : ownKnob Try.prog.godebug = none := by kernel_rfl
theorem laidOut : laidOutB Try.prog = true := by kernel_rfl
set_option maxRecDepth 100000 in
theorem lifted (os : Os) (started : os.Started) (H : Type) (enc : TypeId × Value → H) :
    ReturnsInHanded {} Try.checked os 5 .any (Rows.reelMarksSpec.pre6 enc Try.prog Try.f5 Rows.reelMarksRow.domain false) (Rows.reelMarksSpec.post enc Try.prog Try.f5 false true false false) := by
  refine returnsInHanded_of_change (C := Try.checked) own started (by kernel_rfl) Try.func5
    (ChangeSpec.witness6 (enc := enc) (C := Try.checked) false ⟨#[], #[.slice none 0 0], []⟩ 8 (by kernel_rfl) (by kernel_rfl) (by kernel_rfl) (by kernel_rfl)) ?_
  intro W base args ds gs before hval0 hW hcnd _
  have hval : ∀ (j : Nat) t v, Try.f5.params[j]? = some t → args[j]? = some v → Value.okWide Try.prog W .any base t v := hval0
  have hW' := hW
  obtain ⟨p, q, hA0, hV, rfl, hfz, hnd⟩ := hW
  have hA : DataW.TrodAll enc Try.prog W 0 (fun _ => true) true Try.f5.params.toList args.toList ds p := hA0
  rw [Try.params5] at hA hval
  obtain ⟨v0, vs0, d0, ds0, p0, q0, hargs, rfl, rfl, h0, r0⟩ := trodAll_cons hA
  obtain ⟨rfl, rfl, rfl⟩ := trodAll_nil r0
  obtain rfl : args = #[v0] := by cases args; simp_all
  obtain ⟨rfl, rfl⟩ := trodVars_none hV
  have lt0 : ∀ x ∈ p0, x.block < W.heap.size := by obtain ⟨m, hm⟩ := h0; exact DataW.trod_lt m _ _ _ hm
  obtain ⟨x0, w0⟩ := arg_open (Kd.slice (.int .i64)) h0 (hval 0 _ v0 rfl rfl) (by kernel_rfl)
  clear hA0 hval0
  refine (ReelMarks_walk W v0 x0 w0).mono fun e W' ⟨he, bel⟩ => ?_
  subst he
  exact ⟨_, rfl, _, _, _, [], _, [], hW', trodAll_mk1 (shut_bool (by kernel_rfl) _), (trodAll_cons_mk (Below.trod laidOut (by kernel_rfl) (of_decide_eq_true (by kernel_rfl)) h0 bel lt0) trodAll_mk0), rfl, bel.frame _, fun h => by cases h⟩

theorem over : Rows.reelMarksRow.holds Try.pinned (OpenSpec.ofChange Rows.reelMarksSpec) :=
  OpenClaim.holds_of_wide 5 Try.f5 rfl rfl rfl rfl rfl rfl rfl ⟨rfl, rfl, rfl, rfl, rfl⟩ rfl rfl rfl rfl rfl (by kernel_rfl) Try.func5 (by kernel_rfl)
    (of_decide_eq_true (by kernel_rfl)) (by unfold Func.isWrapper; rw [if_neg (of_decide_eq_false (by kernel_rfl))]; exact ⟨rfl, rfl⟩)
    (fun os started H enc _ => lifted os started H enc)
/-- THE STATEMENT. -/
theorem proved : Rows.ReelMarksSaid := over
#print axioms proved
end ReelMarks
end Go.Proofs.Ytdgaknpocbnomaa
