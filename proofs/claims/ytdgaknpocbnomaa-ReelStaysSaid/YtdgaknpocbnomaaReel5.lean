/- What Trim of a volume does. No condition. -/
import Derived.Test.YtdgaknpocbnomaaReel4
set_option linter.unusedSimpArgs false
set_option linter.unusedVariables false
namespace Go.Proofs.Ytdgaknpocbnomaa
open Go.RowKit
set_option maxHeartbeats 2000000
set_option maxRecDepth 100000

def lastSize (l : List Bk) : Nat := match l.getLast? with | some k => k.s.size | none => 0
/-- the torn block at the end is gone, plainly -/
def Vol.trim (x : Vol) : Int × Vol :=
  if (tryR x.lost x.fail).1 ≠ 0 then ((tryR x.lost x.fail).1, { x with fail := (tryR x.lost x.fail).2 })
  else if lastTorn x.bl = false then (5, { x with fail := (tryR x.lost x.fail).2 })
  else if x.prot = true then (15, { x with fail := (tryR x.lost x.fail).2 })
  else (0, { x with fail := (tryR x.lost x.fail).2, used := (giveR x.used (lastSize x.bl + 4)).2, bl := x.bl.take (x.bl.length - 1), safe := min x.safe (x.bl.length - 1), pos := min x.pos (x.bl.length - 1) })
theorem lastSize_get (l : List Bk) (m : Nat) (h : l.length = m + 1) : lastSize l = (l[m]'(by omega)).s.size := by
  unfold lastSize
  rw [List.getLast?_eq_getElem?]
  simp only [show l.length - 1 = m by omega]
  rw [List.getElem?_eq_getElem (by omega)]
theorem reel_Trim (x : Vol) (hx : x.Ok) (base b : Nat) (v : Value) (w : World) (h : RelV w base b v x) (hbb : b < base) :
    Calls Try.prog 21 #[.pointer (some ⟨b, 0, none⟩)] w (fun e w' => e = .returned (.int .i64 (x.trim.1)) ∧ RelTo w base b x.trim.2 w') := by
  obtain ⟨room, used, lost, fail, label, bl, safe, pos, prot, er⟩ := x
  obtain ⟨o1, o2, o3, o4, o5, o6, o7, o8, o9⟩ := hx
  simp only at o1 o2 o3 o4 o5 o6 o7 o8 o9
  obtain ⟨a, f, hq⟩ : ∃ a f, tryR lost fail = (a, f) := ⟨_, _, rfl⟩
  have hb1 : Blk w b #[.int .i64 (room), .int .i64 (used), .bool lost, .int .i64 (fail), .string label, v, .int .i64 ((safe : Nat)), .int .i64 ((pos : Nat)), .bool prot, .int .i64 (er)] 36 := h.blk
  have HTr := Lib.hid (try_blk _ 2 _ _ _ lost fail hb1 rfl rfl o4 a f #[.int .i64 (room), .int .i64 (used), .bool lost, .int .i64 (f), .string label, v, .int .i64 ((safe : Nat)), .int .i64 ((pos : Nat)), .bool prot, .int .i64 (er)] hq rfl)
  unfold Vol.trim
  simp only [hq]
  obtain ⟨ao, cap, rfl, _, hcm, _, hsl⟩ := Sl.of_own h.own
  unfold maxLen at hcm
  clear hb1
  by_cases ha : a = 0
  · subst ha
    rw [if_neg (by simp)]
    rcases Nat.eq_zero_or_pos bl.length with hz | hz
    · obtain rfl : bl = [] := List.eq_nil_of_length_eq_zero hz
      rw [if_pos (show lastTorn [] = false from rfl)]
      clear hsl hz
      (go_enter Try.func21, Try.ntmps21)
      go_wp2_with fail
      refine HTr.out.mono ?_; rintro e w2 ⟨rfl, hb2, hO2⟩
      obtain ⟨hR2, hS2⟩ := h.now (x' := ⟨room, used, lost, f, label, [], safe, pos, prot, er⟩) hb2 hO2 rfl
      have c5 := hb2.cell 5
      simp only [List.getElem?_toArray, List.getElem?_cons_zero, List.getElem?_cons_succ] at c5
      go_wp2_with fail
      go_ret
      exact ⟨rfl, _, hR2, hS2⟩
    · obtain ⟨m, hm⟩ : ∃ m, bl.length = m + 1 := ⟨bl.length - 1, by omega⟩
      have hlg := lastTorn_get bl m hm
      have hls := lastSize_get bl m hm
      have g0 := bkv_get bl m (by omega) 0 (by omega)
      have g1 := bkv_get bl m (by omega) 1 (by omega)
      have g2 := bkv_get bl m (by omega) 2 (by omega)
      have hks := o8 (bl[m]'(by omega)) (List.getElem_mem _)
      obtain ⟨g, off, rfl, _, _⟩ := hsl (by omega)
      generalize bl[m]'(by omega) = k at *
      obtain ⟨s, mk, tn⟩ := k
      simp only [Bk.cells, List.getElem?_cons_succ, List.getElem?_cons_zero] at g0 g1 g2 hlg hls hks
      have G0 := Lib.hid g0
      have G1 := Lib.hid g1
      have G2 := Lib.hid g2
      have Hm := Lib.hid hm
      rw [hlg]
      clear g0 g1 g2 hsl hlg hz
      cases tn with
      | false =>
        rw [if_pos rfl]
        clear hm hls
        (go_enter Try.func21, Try.ntmps21)
        go_wp2_with fail
        refine HTr.out.mono ?_; rintro e w2 ⟨rfl, hb2, hO2⟩
        obtain ⟨hR2, hS2⟩ := h.now (x' := ⟨room, used, lost, f, label, bl, safe, pos, prot, er⟩) hb2 hO2 rfl
        have c5 := hb2.cell 5
        simp only [List.getElem?_toArray, List.getElem?_cons_zero, List.getElem?_cons_succ] at c5
        obtain ⟨hct, hm2⟩ := own_two hR2.own G2.out Hm.out
        go_wp2_with fail
        go_ret
        exact ⟨rfl, _, hR2, hS2⟩
      | true =>
        rw [if_neg (by simp)]
        by_cases hp : prot = true
        · subst hp
          rw [if_pos rfl]
          clear hm hls
          (go_enter Try.func21, Try.ntmps21)
          go_wp2_with fail
          refine HTr.out.mono ?_; rintro e w2 ⟨rfl, hb2, hO2⟩
          obtain ⟨hR2, hS2⟩ := h.now (x' := ⟨room, used, lost, f, label, bl, safe, pos, true, er⟩) hb2 hO2 rfl
          have c5 := hb2.cell 5
          have c8 := hb2.cell 8
          simp only [List.getElem?_toArray, List.getElem?_cons_zero, List.getElem?_cons_succ] at c5 c8
          obtain ⟨hct, hm2⟩ := own_two hR2.own G2.out Hm.out
          go_wp2_with fail
          go_ret
          exact ⟨rfl, _, hR2, hS2⟩
        · have hpf : prot = false := by cases prot <;> simp_all
          subst hpf
          rw [if_neg (by simp)]
          rw [hls, show bl.length - 1 = m by omega]
          obtain ⟨a2, u2, hq2⟩ : ∃ a2 u2, giveR used ((s.size : Int) + 4) = (a2, u2) := ⟨_, _, rfl⟩
          rw [hq2]
          obtain ⟨sf, hsf, hsf2⟩ : ∃ n : Nat, (if (m : Int) < (safe : Int) then (m : Int) else (safe : Int)) = (n : Int) ∧ n = min safe m := ⟨min safe m, by split <;> omega, rfl⟩
          obtain ⟨ps, hps, hps2⟩ : ∃ n : Nat, (if (m : Int) < (pos : Int) then (m : Int) else (pos : Int)) = (n : Int) ∧ n = min pos m := ⟨min pos m, by split <;> omega, rfl⟩
          rw [← hsf2, ← hps2]
          have HGv : Hid (∀ wx, Blk wx b #[.int .i64 (room), .int .i64 (used), .bool lost, .int .i64 (f), .string label, .slice (some ⟨g, off, none⟩) bl.length cap, .int .i64 ((safe : Nat)), .int .i64 ((pos : Nat)), .bool false, .int .i64 (er)] 36 → Calls Try.prog 35 #[.pointer (some ⟨b, 0, none⟩), .int .i64 ((s.size : Int) + 4)] wx (Now (.int .i64 (a2)) wx b #[.int .i64 (room), .int .i64 (u2), .bool lost, .int .i64 (f), .string label, .slice (some ⟨g, off, none⟩) bl.length cap, .int .i64 ((safe : Nat)), .int .i64 ((pos : Nat)), .bool false, .int .i64 (er)] 36)) := Lib.hid (fun wx hbx => give_blk _ 0 _ _ _ used _ hbx rfl o1 (by omega) a2 u2 _ hq2 rfl)
          clear hm hls hq2 hp hsf2 hps2
          (go_enter Try.func21, Try.ntmps21)
          go_wp2_with fail
          refine HTr.out.mono ?_; rintro e w2 ⟨rfl, hb2, hO2⟩
          obtain ⟨hR2, hS2⟩ := h.now (x' := ⟨room, used, lost, f, label, bl, safe, pos, false, er⟩) hb2 hO2 rfl
          have c5 := hb2.cell 5
          have c8 := hb2.cell 8
          simp only [List.getElem?_toArray, List.getElem?_cons_zero, List.getElem?_cons_succ] at c5 c8
          obtain ⟨e2, hm2⟩ := own_two hR2.own G2.out Hm.out
          have e0 := own_last hR2.own G0.out (by first | omega | (simp only; omega))
          have e1 := own_last hR2.own G1.out (by first | omega | (simp only; omega))
          rw [← Nat.add_assoc] at e0 e1
          rw [Nat.add_zero] at e0
          go_wp2_with fail
          go_region_with (first | (go_at_call 37; refine (block_weight s hks mk true _).mono ?_; rintro e w3 ⟨rfl, hB3⟩) | (go_at_call 35; refine (HGv.out _ (Blk.keep (w := w2.drew) hb2 (only_of_below hB3 (fun _ => False)) (fun e => e))).mono ?_; rintro e w4 ⟨rfl, hb4, hO4⟩))
          obtain ⟨hR3, hS3⟩ := RelV.below (w := w2.drew) (⟨hR2.blk, hR2.own, hR2.le⟩ : RelV w2.drew base b (.slice (some ⟨g, off, none⟩) bl.length cap) ⟨room, used, lost, f, label, bl, safe, pos, false, er⟩) hB3
          obtain ⟨hR4, hS4⟩ := hR3.now (x' := ⟨room, u2, lost, f, label, bl, safe, pos, false, er⟩) hb4 hO4 rfl
          have hSd : Only (relS w base b) w w2.drew := hS2.drew
          have hS := relS_trans (relS_trans hSd hS3) hS4
          clear c5 c8 e0 e1 e2 hb2 hO2 hR2 hR3 hB3 hS2 hS3 hS4 hO4 hSd
          have c5 := hb4.cell 5
          have f5 := hb4.frozen 5
          simp only [List.getElem?_toArray, List.getElem?_cons_zero, List.getElem?_cons_succ] at c5
          have hb5 : Blk (w4.setCell ⟨b, 5, none⟩ (.slice (some ⟨g, off, none⟩) m cap)) b #[.int .i64 (room), .int .i64 (u2), .bool lost, .int .i64 (f), .string label, .slice (some ⟨g, off, none⟩) m cap, .int .i64 ((safe : Nat)), .int .i64 ((pos : Nat)), .bool false, .int .i64 (er)] 36 := by simpa using hb4.set 5 (.slice (some ⟨g, off, none⟩) m cap)
          have hO5 : Only (· = b) w4 (w4.setCell ⟨b, 5, none⟩ (.slice (some ⟨g, off, none⟩) m cap)) := (Only.refl _ _).setCell _ _ (fun _ => rfl)
          have hgb := hR4.apart
          go_wp2_with fail
          generalize hw5 : w4.setCell ⟨b, 5, none⟩ (.slice (some ⟨g, off, none⟩) m cap) = w5 at *
          clear hw5 c5 f5
          have c6 := hb5.cell 6
          have c7 := hb5.cell 7
          have f6 := hb5.frozen 6
          have f7 := hb5.frozen 7
          simp only [List.getElem?_toArray, List.getElem?_cons_zero, List.getElem?_cons_succ] at c6 c7
          have hlt5 := hb5.lt
          have hb67 : Blk ((w5.setCell ⟨b, 6, none⟩ (.int .i64 ((sf : Nat)))).setCell ⟨b, 7, none⟩ (.int .i64 ((ps : Nat)))) b #[.int .i64 (room), .int .i64 (u2), .bool lost, .int .i64 (f), .string label, .slice (some ⟨g, off, none⟩) m cap, .int .i64 ((sf : Nat)), .int .i64 ((ps : Nat)), .bool false, .int .i64 (er)] 36 := by simpa using (hb5.set 6 (.int .i64 ((sf : Nat)))).set 7 (.int .i64 ((ps : Nat)))
          have HB5 := Lib.hid hb5
          clear hb5 hb4
          go_region
          have hsf' : (if m < safe then (m : Int) else (safe : Int)) = (sf : Int) := by
            have := hsf
            split <;> split at this <;> omega
          have hps' : (if m < pos then (m : Int) else (pos : Int)) = (ps : Int) := by
            have := hps
            split <;> split at this <;> omega
          rw [hsf', hps']
          have hO7 : Only (· = b) w4 ((w5.setCell ⟨b, 6, none⟩ (.int .i64 ((sf : Nat)))).setCell ⟨b, 7, none⟩ (.int .i64 ((ps : Nat)))).drew := ((hO5.setCell ⟨b, 6, none⟩ (.int .i64 ((sf : Nat))) (fun _ => rfl)).setCell ⟨b, 7, none⟩ (.int .i64 ((ps : Nat))) (fun _ => rfl)).drew
          have hcut := own_keep (own_cut hR4.own (m := m) (by have := Hm.out; first | omega | (simp only; omega))) hO7 (fun g' hg' e => by
            have hg2 : g = g' := by simpa [Value.ownBlock] using hg'
            exact hgb (by rw [hg2, e]; rfl))
          rw [bkv_take] at hcut
          have hlt : (bl.take m).length = m := by have := Hm.out; simp; omega
          have hRel : RelTo w base b ⟨room, u2, lost, f, label, bl.take m, sf, ps, false, er⟩ ((w5.setCell ⟨b, 6, none⟩ (.int .i64 ((sf : Nat)))).setCell ⟨b, 7, none⟩ (.int .i64 ((ps : Nat)))).drew := by
            refine ⟨_, ⟨hb67, ?_, ?_⟩, hS.trans hO7 (fun x _ e => Or.inl e)⟩
            · simp only
              rw [hlt]
              exact hcut
            · exact Nat.le_trans hR4.le hO7.size
          have HRel := Lib.hid hRel
          clear hRel hb67 hO7 hcut hO5 HB5
          go_wp2_with fail
          go_ret
          exact ⟨rfl, HRel.out⟩
  · rw [if_pos ha]
    have ha1 : (a == 0) = false := by simpa using ha
    have ha2 : (a != 0) = true := by simpa using ha
    clear hsl
    (go_enter Try.func21, Try.ntmps21)
    go_wp2_with fail
    refine HTr.out.mono ?_; rintro e w2 ⟨rfl, hb2, hO2⟩
    obtain ⟨hR2, hS2⟩ := h.now (x' := ⟨room, used, lost, f, label, bl, safe, pos, prot, er⟩) hb2 hO2 rfl
    go_wp2_with fail
    go_ret
    exact ⟨rfl, _, hR2, hS2⟩
end Go.Proofs.Ytdgaknpocbnomaa
