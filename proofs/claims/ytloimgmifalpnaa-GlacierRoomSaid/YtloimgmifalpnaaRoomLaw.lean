/- What is refused for want of room changes nothing: the statement GlacierRoom holds of all arguments. No condition. -/
import Derived.Test.YtloimgmifalpnaaRoomReel
import Derived.Test.YtloimgmifalpnaaRoomDisk3
import Derived.Test.YtloimgmifalpnaaRoomLive
set_option linter.unusedSimpArgs false
set_option linter.unusedVariables false
namespace Go.Proofs.Ytloimgmifalpnaa
open Go.RowKit
set_option maxHeartbeats 4000000
set_option maxRecDepth 100000

theorem dk_rel {w w' : World} {base bv bd B : Nat} {R : Int} {v : Value} {x : Vol} {y : Option (Nat × ByteArray)} (hr : RelV w base bv v x) (h : Dk w bd B R y) (k : Only (relS w base bv) w w') : Dk w' bd B R y := by
  refine h.keep k ?_ ?_ ?_
  · rintro (e | ⟨_, cs, fr, hh⟩)
    · exact Blk.ne h.blk hr.blk (by decide) e
    · have := h.blk
      unfold Blk at this
      rw [this] at hh
      injection hh with hh
      injection hh with _ hh _
      exact absurd hh (by decide)
  · rintro (e | ⟨_, cs, fr, hh⟩)
    · exact h.map.ne hr.blk e
    · have hm := h.map
      cases hy : y.map (·.1) with
      | none =>
        rw [hy] at hm
        obtain ⟨c, hm⟩ := hm
        rw [hm] at hh
        cases hh
      | some f =>
        rw [hy] at hm
        obtain ⟨c, n, hm⟩ := hm
        rw [hm] at hh
        cases hh
  · intro f s e
    have hf := h.file f s e
    rintro (e | ⟨_, cs, fr, hh⟩)
    · exact Blk.ne hf hr.blk (by decide) e
    · unfold Blk at hf
      rw [hf] at hh
      injection hh with hh
      injection hh with _ hh _
      exact absurd hh (by decide)
theorem rd_Write {W w : World} {base b bd B : Nat} {R : Int} {x : Vol} {y : Option (Nat × ByteArray)} (h : RV W w base b x) (hD : Dk w bd B R y) (s : ByteArray) (hs : s.size ≤ 1000000) (hl : x.bl.length < 1000000) :
    Calls Try.prog 10 #[.pointer (some ⟨b, 0, none⟩), .string s] w (fun e w' => e = .returned (.int .i64 ((x.write ⟨s, false, false⟩).1)) ∧ RV W w' base b (x.write ⟨s, false, false⟩).2 ∧ Dk w' bd B R y) := by
  obtain ⟨v, hv⟩ := h.ex
  refine (reel_Write x h.ok s hs base b v w hv).mono ?_
  rintro e w' ⟨he, hr⟩
  obtain ⟨v', hr', ho⟩ := hr
  exact ⟨he, h.step ⟨v', hr', ho⟩ (h.ok.write _ hs hl), dk_rel hv hD ho⟩
theorem rv_disk {W w w' : World} {base b bd B : Nat} {R : Int} {x : Vol} {y : Option (Nat × ByteArray)} (h : RV W w base b x) (hD : Dk w bd B R y) (h1 : W.heap.size ≤ bd) (h2 : W.heap.size ≤ B) (k : Only (fun k => k = bd ∨ k = B) w w') : RV W w' base b x := by
  obtain ⟨v, hv⟩ := h.ex
  refine h.only k ?_ ?_ ?_
  · rintro (e | e)
    · exact Blk.ne hv.blk hD.blk (by decide) e
    · exact hD.map.ne hv.blk e.symm
  · intro g cs fr hh hS
    rcases hS with rfl | rfl
    · have := hD.blk
      unfold Blk at this
      rw [this] at hh
      injection hh with hh
      injection hh with _ hh _
      exact absurd hh (by decide)
    · have hm := hD.map
      cases hy : y.map (·.1) with
      | none =>
        rw [hy] at hm
        obtain ⟨c, hm⟩ := hm
        rw [hm] at hh
        cases hh
      | some f =>
        rw [hy] at hm
        obtain ⟨c, n, hm⟩ := hm
        rw [hm] at hh
        cases hh
  · rintro g (rfl | rfl)
    · exact h1
    · exact h2
theorem dk_Used {w : World} {bd B : Nat} {R : Int} {y : Option (Nat × ByteArray)} (h : Dk w bd B R y) : Calls Try.prog 8 #[.pointer (some ⟨bd, 0, none⟩)] w (Drew (.int .i64 ((sz y : Nat))) w) := by
  refine meter_used bd 0 _ w ?_
  rw [h.blk.cell]
  rfl
theorem GlacierRoom_walk (W : World) (v0 v1 : Value) (x0 : (Kd.int .i64).den) (w0 : (Kd.int .i64).Arg W v0 x0) (x1 : (Kd.slice .str).den) (w1 : (Kd.slice .str).Arg W v1 x1) :
    Calls Try.prog 3 #[v0, v1] W (Done W) := by
  obtain ⟨R, rfl⟩ : ∃ R : Int, R = x0 := ⟨_, rfl⟩
  obtain ⟨xs, rfl⟩ : ∃ xs : List ByteArray, xs = x1 := ⟨_, rfl⟩
  obtain ⟨rfl, hwR⟩ := w0
  obtain ⟨hR1, hR2⟩ := wf_i64 hwR
  obtain ⟨ao, ca, rfl, hla, hsa, _, hpa⟩ := strs_arg w1
  clear w1
  generalize hlen : xs.length = len at *
  have Hlen := Lib.hid hlen
  clear hlen
  (go_enter Try.func3, Try.ntmps3)
  go_wp2_with fail
  refine (live_any _).mono ?_; rintro e w1 ⟨rfl, hB1⟩
  by_cases c : 0 ≤ R ∧ R ≤ 500
  · obtain ⟨c1, c2⟩ := c
    go_wp2_with fail
    refine (disk_New R c1 _).mono ?_; rintro e w2 ⟨bd, B, rfl, hD, hB2, hd1, hd2⟩
    have hB12 := hB1.trans (hB2.mono hB1.size)
    have hbd : W.heap.size ≤ bd := Nat.le_trans hB1.size hd1
    have hbB : W.heap.size ≤ B := Nat.le_trans hB1.size hd2
    go_wp2_with fail
    refine (reel_New R R (by omega) (by omega) w2).mono ?_; rintro e w3 ⟨bv, rfl, h1, h2, h3, h4⟩
    have hV : RV W w3 w3.heap.size bv (Vol.new R) := by
      refine ⟨⟨_, h4⟩, hB12.trans (h3.mono hB12.size), by have := hB12.size; omega, h2, ?_⟩
      refine ⟨Int.le_refl _, by simp only [Vol.new]; omega, by simp only [Vol.new]; omega, by simp [Vol.new], by simp [Vol.new], by simp [Vol.new], by simp [Vol.new], by simp [Vol.new], by simp [Vol.new]⟩
    have hD3 := hD.below h3
    generalize w3.heap.size = base at hV
    rw [new_at] at hV
    clear hD hB2 hd1 hd2 h1 h2 h3 h4 hB12
    go_wp2_with fail
    go_loopw [7] (fun i wr => ∃ (j : Nat) (L : List Bk) (U : Int) (y : Option (Nat × ByteArray)), i = .int .i64 (j) ∧ j ≤ 20 ∧ L.length ≤ j ∧ 0 ≤ U ∧ U ≤ R ∧ (sz y : Int) ≤ R ∧ lastTorn L = false ∧ RV W wr base bv (Vol.at R U L 0 0) ∧ Dk wr bd B R y) (fun i _ => 20 - (intOf i).toNat)
    case atStart => exact ⟨0, [], 0, none, rfl, by omega, Nat.le_refl _, Int.le_refl _, c1, c1, rfl, hV, hD3⟩
    clear hV hD3
    obtain ⟨j, L, U, y, rfl, hj, hL, hU1, hU2, hY, ht, hV, hD⟩ := hrel
    by_cases d : j < len ∧ j < 20
    · obtain ⟨d1, d2⟩ := d
      obtain ⟨bb, off, rfl, hbW, hca⟩ := hpa (by omega)
      have hjx : j < xs.length := by have := Hlen.out; omega
      have c1x : wr.cell? ⟨bb, off + j, none⟩ = some (.string xs[j]) := (hV.bel.cell (p := ⟨bb, off + j, none⟩) hbW).trans (hca j xs[j] (List.getElem?_eq_getElem hjx))
      have cut := Lib.hid (cut_any xs[j] 60 60 rfl (bs (xs[j].data.toList.take 60)) rfl (hsa _ (List.getElem_mem hjx)))
      have hcs := cut_size xs[j] 60
      generalize bs (xs[j].data.toList.take 60) = t at *
      generalize xs[j] = sx at *
      have i1 : (j : Int) < 20 := by omega
      have i2 : (j : Int) < len := by omega
      clear hca
      go_wp2_with fail
      refine (cut.out _).mono ?_; rintro e wq ⟨rfl, rfl⟩
      have HU1 := Lib.hid (fun n => dk_Used (hD.below (below_drew (Below.refl _ _) n)))
      have HU2 := Lib.hid (fun n => rv_Used (hV.drewN n))
      clear c1x cut
      go_wp2_with fail
      go_quiet ((go_at_call 8; first | exact quiet_drew (HU1.out _) | exact quiet_drew (HU2.out _)))
      have hV4 := hV.drewN nq
      have hD4 := hD.below (below_drew (Below.refl _ _) nq)
      clear hV hD HU1 HU2
      generalize wr.drewN nq = w4 at *
      have HA := Lib.hid (disk_append bd B R y c1 (by omega) hY t (by omega) w4 hD4)
      simp only [Vol.at]
      go_wp2_with fail
      refine HA.out.mono ?_; rintro e w5 ⟨hO5, hres⟩
      have hV5 := rv_disk hV4 hD4 hbd hbB hO5
      clear HA hV4 hD4 hO5
      by_cases f : (t.size : Int) + 4 ≤ R - U
      · have f2 : U + (t.size : Int) + 4 ≤ R := by omega
        have HW := Lib.hid (fun (z : Option (Nat × ByteArray)) (hz : Dk w5 bd B R z) => rd_Write hV5 hz t (by omega) (by show L.length < 1000000; omega))
        rw [write_fits R U L 0 0 ⟨t, false, false⟩ ht f] at HW
        rcases hres with ⟨r1, rfl, g, t', ht', hD5⟩ | ⟨r1, rfl, hD5⟩
        · have HW2 := Lib.hid (HW.out _ hD5)
          clear HW hV5 hD5
          go_wp2_with fail
          refine HW2.out.mono ?_; rintro e w6 ⟨rfl, hV6, hD6⟩
          go_wp2_with fail
          refine ⟨⟨j + 1, L ++ [⟨t, false, false⟩], U + ((t.size : Int) + 4), some (g, t'), by go_num, by omega, by simp; omega, by omega, by omega, by show (t'.size : Int) ≤ R; omega, lastTorn_snoc L _, hV6, hD6⟩, by simp [intOf]; omega⟩
        · have HW2 := Lib.hid (HW.out _ hD5)
          clear HW hV5 hD5
          go_wp2_with fail
          refine HW2.out.mono ?_; rintro e w6 ⟨rfl, hV6, hD6⟩
          have HU := Lib.hid (dk_Used hD6)
          go_wp2_with fail
          refine HU.out.mono ?_; rintro e w7 ⟨k7, rfl, rfl⟩
          have hV7 := hV6.drewN k7
          have hD7 := hD6.below (below_drew (Below.refl _ _) k7)
          go_wp2_with fail
          refine ⟨⟨j + 1, L ++ [⟨t, false, false⟩], U + ((t.size : Int) + 4), y, by go_num, by omega, by simp; omega, by omega, by omega, hY, lastTorn_snoc L _, hV7, hD7⟩, by simp [intOf]; omega⟩
      · have f2 : R < U + (t.size : Int) + 4 := by omega
        have HW := Lib.hid (fun (z : Option (Nat × ByteArray)) (hz : Dk w5 bd B R z) => rd_Write hV5 hz t (by omega) (by show L.length < 1000000; omega))
        rw [write_full R U L 0 0 ⟨t, false, false⟩ ht f] at HW
        rcases hres with ⟨r1, rfl, g, t', ht', hD5⟩ | ⟨r1, rfl, hD5⟩
        · have HW2 := Lib.hid (HW.out _ hD5)
          clear HW hV5 hD5
          go_wp2_with fail
          refine HW2.out.mono ?_; rintro e w6 ⟨rfl, hV6, hD6⟩
          have HU := Lib.hid (rv_Used hV6)
          simp only [Vol.at] at HU
          go_wp2_with fail
          refine HU.out.mono ?_; rintro e w7 ⟨k7, rfl, rfl⟩
          have hV7 := hV6.drewN k7
          have hD7 := hD6.below (below_drew (Below.refl _ _) k7)
          go_wp2_with fail
          refine ⟨⟨j + 1, L, U, some (g, t'), by go_num, by omega, by omega, by omega, by omega, by show (t'.size : Int) ≤ R; omega, ht, hV7, hD7⟩, by simp [intOf]; omega⟩
        · have HW2 := Lib.hid (HW.out _ hD5)
          clear HW hV5 hD5
          go_wp2_with fail
          refine HW2.out.mono ?_; rintro e w6 ⟨rfl, hV6, hD6⟩
          have HU := Lib.hid (dk_Used hD6)
          go_wp2_with fail
          refine HU.out.mono ?_; rintro e w7 ⟨k7, rfl, rfl⟩
          have hV7 := hV6.drewN k7
          have hD7 := hD6.below (below_drew (Below.refl _ _) k7)
          have HU2 := Lib.hid (rv_Used hV7)
          simp only [Vol.at] at HU2
          go_wp2_with fail
          refine HU2.out.mono ?_; rintro e w8 ⟨k8, rfl, rfl⟩
          have hV8 := hV6.drewN (k7 + k8)
          have hD8 := hD6.below (below_drew (Below.refl _ _) (k7 + k8))
          go_wp2_with fail
          refine ⟨⟨j + 1, L, U, y, by go_num, by omega, by omega, by omega, by omega, hY, ht, hV8, hD8⟩, by simp [intOf]; omega⟩
    · have HU := Lib.hid (dk_Used hD)
      have HU2 := Lib.hid (fun n => rv_Used (hV.drewN n))
      have hbl := hV.bel
      simp only [Vol.at] at HU2
      clear hV hD
      go_wp2_with fail
      all_goals
        refine HU.out.mono ?_; rintro e w7 ⟨k7, rfl, rfl⟩
        go_wp2_with fail
        refine (HU2.out _).mono ?_; rintro e w8 ⟨k8, rfl, rfl⟩
        go_wp2_with fail
        go_ret
        exact ⟨rfl, below_drew hbl (k7 + k8)⟩
  · by_cases c1 : R < 0
    · go_wp2_with fail
      refine (live_any _).mono ?_; rintro e w2 ⟨rfl, hB2⟩
      go_wp2_with fail
      go_ret
      exact ⟨rfl, hB1.trans (hB2.mono hB1.size)⟩
    · have c2 : 500 < R := by omega
      go_wp2_with fail
      refine (live_any _).mono ?_; rintro e w2 ⟨rfl, hB2⟩
      go_wp2_with fail
      go_ret
      exact ⟨rfl, hB1.trans (hB2.mono hB1.size)⟩
namespace GlacierRoom
open Go.ChangeShapes Go.WideShapes Go.ChangeAt Go.RowKit
set_option linter.unusedVariables false
theorem own : ownKnob Try.prog.godebug = none := by kernel_rfl
theorem laidOut : laidOutB Try.prog = true := by kernel_rfl
set_option maxRecDepth 100000 in
theorem lifted (os : Os) (started : os.Started) (H : Type) (enc : TypeId × Value → H) :
    ReturnsInHanded {} Try.checked os 3 .any (Rows.glacierRoomSpec.pre6 enc Try.prog Try.f3 Rows.glacierRoomRow.domain false) (Rows.glacierRoomSpec.post enc Try.prog Try.f3 false true false false) := by
  refine returnsInHanded_of_change (C := Try.checked) own started (by kernel_rfl) Try.func3
    (ChangeSpec.witness6 (enc := enc) (C := Try.checked) false ⟨#[], #[.int .i64 0, .slice none 0 0], []⟩ 8 (by kernel_rfl) (by kernel_rfl) (by kernel_rfl) (by kernel_rfl)) ?_
  intro W base args ds gs before hval0 hW hcnd _
  have hval : ∀ (j : Nat) t v, Try.f3.params[j]? = some t → args[j]? = some v → Value.okWide Try.prog W .any base t v := hval0
  have hW' := hW
  obtain ⟨p, q, hA0, hV, rfl, hfz, hnd⟩ := hW
  have hA : DataW.TrodAll enc Try.prog W 0 (fun _ => true) true Try.f3.params.toList args.toList ds p := hA0
  rw [Try.params3] at hA hval
  obtain ⟨v0, vs0, d0, ds0, p0, q0, hargs, rfl, rfl, h0, r0⟩ := trodAll_cons hA
  obtain ⟨v1, vs1, d1, ds1, p1, q1, rfl, rfl, rfl, h1, r1⟩ := trodAll_cons r0
  obtain ⟨rfl, rfl, rfl⟩ := trodAll_nil r1
  obtain rfl : args = #[v0, v1] := by cases args; simp_all
  obtain ⟨rfl, rfl⟩ := trodVars_none hV
  have lt0 : ∀ x ∈ p0, x.block < W.heap.size := by obtain ⟨m, hm⟩ := h0; exact DataW.trod_lt m _ _ _ hm
  obtain ⟨x0, w0⟩ := arg_open (Kd.int .i64) h0 (hval 0 _ v0 rfl rfl) (by kernel_rfl)
  have lt1 : ∀ x ∈ p1, x.block < W.heap.size := by obtain ⟨m, hm⟩ := h1; exact DataW.trod_lt m _ _ _ hm
  obtain ⟨x1, w1⟩ := arg_open (Kd.slice .str) h1 (hval 1 _ v1 rfl rfl) (by kernel_rfl)
  clear hA0 hval0
  refine (GlacierRoom_walk W v0 v1 x0 w0 x1 w1).mono fun e W' ⟨he, bel⟩ => ?_
  subst he
  exact ⟨_, rfl, _, _, _, [], _, [], hW', trodAll_mk1 (shut_bool (by kernel_rfl) _), (trodAll_cons_mk (Below.trod laidOut (by kernel_rfl) (of_decide_eq_true (by kernel_rfl)) h0 bel lt0) (trodAll_cons_mk (Below.trod laidOut (by kernel_rfl) (of_decide_eq_true (by kernel_rfl)) h1 bel lt1) trodAll_mk0)), rfl, bel.frame _, fun h => by cases h⟩

theorem over : Rows.glacierRoomRow.holds Try.pinned (OpenSpec.ofChange Rows.glacierRoomSpec) :=
  OpenClaim.holds_of_wide 3 Try.f3 rfl rfl rfl rfl rfl rfl rfl ⟨rfl, rfl, rfl, rfl, rfl⟩ rfl rfl rfl rfl rfl (by kernel_rfl) Try.func3 (by kernel_rfl)
    (of_decide_eq_true (by kernel_rfl)) (by unfold Func.isWrapper; rw [if_neg (of_decide_eq_false (by kernel_rfl))]; exact ⟨rfl, rfl⟩)
    (fun os started H enc _ => lifted os started H enc)
/-- THE STATEMENT. -/
theorem proved : Rows.GlacierRoomSaid := over
#print axioms proved
end GlacierRoom
end Go.Proofs.Ytloimgmifalpnaa
