/- What Erase of a volume does. No condition. -/
import Derived.Test.YtdgaknpocbnomaaReel7
set_option linter.unusedSimpArgs false
set_option linter.unusedVariables false
namespace Go.Proofs.Ytdgaknpocbnomaa
open Go.RowKit
set_option maxHeartbeats 2000000
set_option maxRecDepth 100000

def Vol.erase (x : Vol) (l : ByteArray) : Int × Vol :=
  if (tryR x.lost x.fail).1 ≠ 0 then ((tryR x.lost x.fail).1, { x with fail := (tryR x.lost x.fail).2 })
  else if x.prot = true then (15, { x with fail := (tryR x.lost x.fail).2 })
  else (0, { x with fail := (tryR x.lost x.fail).2, used := 0, bl := [], safe := 0, pos := 0, label := l, er := x.er + 1 })
theorem giveR_self (u : Int) (h : 0 ≤ u) : giveR u u = (0, 0) := by
  unfold giveR
  rw [if_neg (by omega), if_neg (by omega)]
  simp
theorem reel_Erase (x : Vol) (hx : x.Ok) (l : ByteArray) (base b : Nat) (v : Value) (w : World) (h : RelV w base b v x) :
    Calls Try.prog 42 #[.pointer (some ⟨b, 0, none⟩), .string l] w (fun e w' => e = .returned (.int .i64 ((x.erase l).1)) ∧ RelTo w base b (x.erase l).2 w') := by
  obtain ⟨room, used, lost, fail, label, bl, safe, pos, prot, er⟩ := x
  obtain ⟨o1, o2, o3, o4, o5, o6, o7, o8, o9⟩ := hx
  simp only at o1 o2 o3 o4 o5 o6 o7 o8 o9
  obtain ⟨a, f, hq⟩ : ∃ a f, tryR lost fail = (a, f) := ⟨_, _, rfl⟩
  have hb1 : Blk w b #[.int .i64 (room), .int .i64 (used), .bool lost, .int .i64 (fail), .string label, v, .int .i64 ((safe : Nat)), .int .i64 ((pos : Nat)), .bool prot, .int .i64 (er)] 36 := h.blk
  have HTr := Lib.hid (try_blk _ 2 _ _ _ lost fail hb1 rfl rfl o4 a f #[.int .i64 (room), .int .i64 (used), .bool lost, .int .i64 (f), .string label, v, .int .i64 ((safe : Nat)), .int .i64 ((pos : Nat)), .bool prot, .int .i64 (er)] hq rfl)
  unfold Vol.erase
  simp only [hq]
  clear hb1
  by_cases ha : a = 0
  · subst ha
    rw [if_neg (by simp)]
    by_cases hp : prot = true
    · subst hp
      rw [if_pos rfl]
      (go_enter Try.func42, Try.ntmps42)
      go_wp2_with fail
      refine HTr.out.mono ?_; rintro e w2 ⟨rfl, hb2, hO2⟩
      obtain ⟨hR2, hS2⟩ := h.now (x' := ⟨room, used, lost, f, label, bl, safe, pos, true, er⟩) hb2 hO2 rfl
      have c8 := hb2.cell 8
      simp only [List.getElem?_toArray, List.getElem?_cons_zero, List.getElem?_cons_succ] at c8
      go_wp2_with fail
      go_ret
      exact ⟨rfl, _, hR2, hS2⟩
    · have hpf : prot = false := by cases prot <;> simp_all
      subst hpf
      rw [if_neg (by simp)]
      have HU : Hid (∀ wx, Blk wx b #[.int .i64 (room), .int .i64 (used), .bool lost, .int .i64 (f), .string label, v, .int .i64 ((safe : Nat)), .int .i64 ((pos : Nat)), .bool false, .int .i64 (er)] 36 → Calls Try.prog 13 #[.pointer (some ⟨b, 0, none⟩)] wx (Now (.int .i64 (used)) wx b #[.int .i64 (room), .int .i64 (used), .bool lost, .int .i64 (f), .string label, v, .int .i64 ((safe : Nat)), .int .i64 ((pos : Nat)), .bool false, .int .i64 (er)] 36)) := Lib.hid (fun wx hbx => used_blk _ 0 _ _ _ used hbx rfl)
      have HGv : Hid (∀ wx, Blk wx b #[.int .i64 (room), .int .i64 (used), .bool lost, .int .i64 (f), .string label, v, .int .i64 ((safe : Nat)), .int .i64 ((pos : Nat)), .bool false, .int .i64 (er)] 36 → Calls Try.prog 35 #[.pointer (some ⟨b, 0, none⟩), .int .i64 (used)] wx (Now (.int .i64 (0)) wx b #[.int .i64 (room), .int .i64 (0), .bool lost, .int .i64 (f), .string label, v, .int .i64 ((safe : Nat)), .int .i64 ((pos : Nat)), .bool false, .int .i64 (er)] 36)) := Lib.hid (fun wx hbx => give_blk _ 0 _ _ _ used used hbx rfl o1 (by omega) 0 0 _ (giveR_self used o1) rfl)
      (go_enter Try.func42, Try.ntmps42)
      go_wp2_with fail
      refine HTr.out.mono ?_; rintro e w2 ⟨rfl, hb2, hO2⟩
      have c8 := hb2.cell 8
      simp only [List.getElem?_toArray, List.getElem?_cons_zero, List.getElem?_cons_succ] at c8
      go_wp2_with fail
      go_region_with (first | (go_at_call 13; refine (HU.out _ (by exact hb2)).mono ?_; rintro e w3 ⟨rfl, hb3, hO3⟩) | (go_at_call 35; refine (HGv.out _ hb3).mono ?_; rintro e w4 ⟨rfl, hb4, hO4⟩))
      have hO24 : Only (· = b) w w4 := (hO2.drew).trans (hO3.trans hO4 (fun _ _ e => e)) (fun _ _ e => e)
      clear c8 hb2 hb3 hO2 hO3 hO4
      have c4 := hb4.cell 4
      have c5 := hb4.cell 5
      have c6 := hb4.cell 6
      have c7 := hb4.cell 7
      have c9 := hb4.cell 9
      have ff := hb4.frozen
      simp only [List.getElem?_toArray, List.getElem?_cons_zero, List.getElem?_cons_succ] at c4 c5 c6 c7 c9
      have hlt := hb4.lt
      go_wp2_with fail
      go_ret
      refine ⟨rfl, .slice none 0 0, ⟨?_, World.ownsRow_nil _ _ _ _, ?_⟩, ?_⟩
      · simpa [Vol.cells] using ((((hb4.set 5 (.slice none 0 0)).set 6 (.int .i64 (0))).set 7 (.int .i64 (0))).set 4 (.string l)).set 9 (.int .i64 (er + 1))
      · have := hO24.size
        have := h.le
        simp [World.setCell]
        omega
      · exact (((((hO24.setCell ⟨b, 5, none⟩ _ (fun _ => rfl)).setCell ⟨b, 6, none⟩ _ (fun _ => rfl)).setCell ⟨b, 7, none⟩ _ (fun _ => rfl)).setCell ⟨b, 4, none⟩ _ (fun _ => rfl)).setCell ⟨b, 9, none⟩ _ (fun _ => rfl)).mono (fun k _ e => Or.inl e)
  · rw [if_pos ha]
    have ha1 : (a == 0) = false := by simpa using ha
    have ha2 : (a != 0) = true := by simpa using ha
    (go_enter Try.func42, Try.ntmps42)
    go_wp2_with fail
    refine HTr.out.mono ?_; rintro e w2 ⟨rfl, hb2, hO2⟩
    obtain ⟨hR2, hS2⟩ := h.now (x' := ⟨room, used, lost, f, label, bl, safe, pos, prot, er⟩) hb2 hO2 rfl
    go_wp2_with fail
    go_ret
    exact ⟨rfl, _, hR2, hS2⟩
end Go.Proofs.Ytdgaknpocbnomaa
