/- What Skip of a volume does. No condition. -/
import Derived.Test.YtdgaknpocbnomaaReel5
set_option linter.unusedSimpArgs false
set_option linter.unusedVariables false
namespace Go.Proofs.Ytdgaknpocbnomaa
open Go.RowKit
set_option maxHeartbeats 2000000
set_option maxRecDepth 100000

/-- behind the next mark from n on; none: there is no such mark -/
def markFrom : List Bk → Nat → Option Nat
  | [], _ => none
  | k :: l, n => if k.mark = true then some (n + 1) else markFrom l (n + 1)
def Vol.skip (x : Vol) : Int × Vol :=
  if (tryR x.lost x.fail).1 ≠ 0 then ((tryR x.lost x.fail).1, { x with fail := (tryR x.lost x.fail).2 })
  else match markFrom (x.bl.drop x.pos) x.pos with
    | none => (2, { x with fail := (tryR x.lost x.fail).2 })
    | some n => (0, { x with fail := (tryR x.lost x.fail).2, pos := n })
theorem reel_Skip (x : Vol) (hx : x.Ok) (base b : Nat) (v : Value) (w : World) (h : RelV w base b v x) :
    Calls Try.prog 18 #[.pointer (some ⟨b, 0, none⟩)] w (fun e w' => e = .returned (.int .i64 (x.skip.1)) ∧ RelTo w base b x.skip.2 w') := by
  obtain ⟨room, used, lost, fail, label, bl, safe, pos, prot, er⟩ := x
  obtain ⟨o1, o2, o3, o4, o5, o6, o7, o8, o9⟩ := hx
  simp only at o1 o2 o3 o4 o5 o6 o7 o8 o9
  obtain ⟨a, f, hq⟩ : ∃ a f, tryR lost fail = (a, f) := ⟨_, _, rfl⟩
  have hb1 : Blk w b #[.int .i64 (room), .int .i64 (used), .bool lost, .int .i64 (fail), .string label, v, .int .i64 ((safe : Nat)), .int .i64 ((pos : Nat)), .bool prot, .int .i64 (er)] 36 := h.blk
  have HTr := Lib.hid (try_blk _ 2 _ _ _ lost fail hb1 rfl rfl o4 a f #[.int .i64 (room), .int .i64 (used), .bool lost, .int .i64 (f), .string label, v, .int .i64 ((safe : Nat)), .int .i64 ((pos : Nat)), .bool prot, .int .i64 (er)] hq rfl)
  unfold Vol.skip
  simp only [hq]
  obtain ⟨ao, cap, rfl, _, hcm, _, hsl⟩ := Sl.of_own h.own
  unfold maxLen at hcm
  clear hb1
  by_cases ha : a = 0
  · subst ha
    rw [if_neg (by simp)]
    obtain ⟨res, hres⟩ : ∃ res : Int × Vol, res = (match markFrom (bl.drop pos) pos with | none => (2, ⟨room, used, lost, f, label, bl, safe, pos, prot, er⟩) | some n => (0, ⟨room, used, lost, f, label, bl, safe, n, prot, er⟩)) := ⟨_, rfl⟩
    rw [← hres]
    have Hres := Lib.hid hres
    clear hres hsl
    (go_enter Try.func18, Try.ntmps18)
    go_wp2_with fail
    refine HTr.out.mono ?_; rintro e w2 ⟨rfl, hb2, hO2⟩
    obtain ⟨hR2, hS2⟩ := h.now (x' := ⟨room, used, lost, f, label, bl, safe, pos, prot, er⟩) hb2 hO2 rfl
    have c5 := hb2.cell 5
    have c7 := hb2.cell 7
    have f7 := hb2.frozen 7
    simp only [List.getElem?_toArray, List.getElem?_cons_zero, List.getElem?_cons_succ] at c5 c7
    go_wp2_with fail
    go_loopw [4] (fun i wr => ∃ j : Nat, pos ≤ j ∧ j ≤ bl.length ∧ i = .int .i64 (j) ∧ wr = w2 ∧ Hid (markFrom (bl.drop pos) pos = markFrom (bl.drop j) j)) (fun i _ => bl.length - (intOf i).toNat)
    case atStart => exact ⟨pos, Nat.le_refl _, o7, rfl, rfl, Lib.hid rfl⟩
    obtain ⟨j, hpj, hj, rfl, rfl, hM⟩ := hrel
    rcases Nat.lt_or_ge j bl.length with hlt | hge
    · have g1 := bkv_get bl j hlt 1 (by omega)
      have hst : Hid (markFrom (bl.drop j) j = if (bl[j]).mark = true then some (j + 1) else markFrom (bl.drop (j + 1)) (j + 1)) := Lib.hid (by rw [List.drop_eq_getElem_cons hlt, markFrom])
      generalize bl[j] = k at *
      obtain ⟨s, mk, tn⟩ := k
      simp only [Bk.cells, List.getElem?_cons_succ, List.getElem?_cons_zero] at g1 hst
      obtain ⟨_, _, ev, _, _, _, hs⟩ := Sl.of_own hR2.own
      cases ev
      obtain ⟨g, off, rfl, _, hcell⟩ := hs (by first | omega | (simp only; omega))
      have e1 := hcell _ _ g1
      rw [← Nat.add_assoc] at e1
      clear hcell hs g1
      cases mk with
      | true =>
        have hr := Hres.out
        rw [hM.out, hst.out, if_pos rfl] at hr
        have Hr := Lib.hid hr
        have hb7 : Blk (wr.setCell ⟨b, 7, none⟩ (.int .i64 (((j : Nat) : Int) + 1))) b #[.int .i64 (room), .int .i64 (used), .bool lost, .int .i64 (f), .string label, .slice (some ⟨g, off, none⟩) bl.length cap, .int .i64 ((safe : Nat)), .int .i64 ((j + 1 : Nat)), .bool prot, .int .i64 (er)] 36 := by simpa using hb2.set 7 (.int .i64 (((j : Nat) : Int) + 1))
        obtain ⟨hR7, hS7⟩ := hR2.now (x' := ⟨room, used, lost, f, label, bl, safe, j + 1, prot, er⟩) hb7 ((Only.refl _ _).setCell _ _ (fun _ => rfl)) rfl
        have hS8 := relS_trans hS2 hS7
        clear hr
        go_wp2_with fail
        go_ret
        rw [Hr.out]
        exact ⟨rfl, _, hR7, hS8⟩
      | false =>
        go_wp2_with fail
        refine ⟨⟨j + 1, by omega, by omega, by go_num, by first | trivial | rfl, Lib.hid ?_⟩, by simp [intOf]; omega⟩
        rw [hM.out, hst.out, if_neg (by simp)]
    · obtain rfl : j = bl.length := by omega
      have hr := Hres.out
      rw [hM.out, List.drop_length] at hr
      have Hr := Lib.hid hr
      clear hr
      go_wp2_with fail
      go_ret
      rw [Hr.out]
      exact ⟨rfl, _, hR2, hS2⟩
  · rw [if_pos ha]
    have ha1 : (a == 0) = false := by simpa using ha
    have ha2 : (a != 0) = true := by simpa using ha
    clear hsl
    (go_enter Try.func18, Try.ntmps18)
    go_wp2_with fail
    refine HTr.out.mono ?_; rintro e w2 ⟨rfl, hb2, hO2⟩
    obtain ⟨hR2, hS2⟩ := h.now (x' := ⟨room, used, lost, f, label, bl, safe, pos, prot, er⟩) hb2 hO2 rfl
    go_wp2_with fail
    go_ret
    exact ⟨rfl, _, hR2, hS2⟩
end Go.Proofs.Ytdgaknpocbnomaa
