/- What New, Write, Mark, Flush, Seek, Len and At of a volume do. No condition. -/
import Derived.Test.YtdgaknpocbnomaaReel
set_option linter.unusedSimpArgs false
set_option linter.unusedVariables false
namespace Go.Proofs.Ytdgaknpocbnomaa
open Go.RowKit
set_option maxHeartbeats 2000000
set_option maxRecDepth 100000

def Vol.flush (x : Vol) : Int × Vol :=
  if (tryR x.lost x.fail).1 ≠ 0 then ((tryR x.lost x.fail).1, { x with fail := (tryR x.lost x.fail).2 })
  else (0, { x with fail := (tryR x.lost x.fail).2, safe := x.bl.length })
def Vol.seek (x : Vol) (n : Int) : Int × Vol :=
  if (tryR x.lost x.fail).1 ≠ 0 then ((tryR x.lost x.fail).1, { x with fail := (tryR x.lost x.fail).2 })
  else if n < 0 ∨ (x.bl.length : Int) < n then (1, { x with fail := (tryR x.lost x.fail).2 })
  else (0, { x with fail := (tryR x.lost x.fail).2, pos := n.toNat })
theorem reel_Write (x : Vol) (hx : x.Ok) (s : ByteArray) (hs : s.size ≤ 1000000) (base b : Nat) (v : Value) (w : World) (h : RelV w base b v x) :
    Calls Try.prog 12 #[.pointer (some ⟨b, 0, none⟩), .string s] w (fun e w' => e = .returned (.int .i64 ((x.write ⟨s, false, false⟩).1)) ∧ RelTo w base b (x.write ⟨s, false, false⟩).2 w') := by
  have H := Lib.hid (reel_write x hx ⟨s, false, false⟩ hs base b v w h)
  generalize x.write ⟨s, false, false⟩ = r at *
  unfold Bk.cells at H
  (go_enter Try.func12, Try.ntmps12)
  go_wp2_with fail
  refine H.out.mono ?_; rintro e w1 ⟨rfl, hR⟩
  go_wp2_with fail
  go_ret
  exact ⟨rfl, hR⟩
theorem reel_Mark (x : Vol) (hx : x.Ok) (base b : Nat) (v : Value) (w : World) (h : RelV w base b v x) :
    Calls Try.prog 17 #[.pointer (some ⟨b, 0, none⟩)] w (fun e w' => e = .returned (.int .i64 ((x.write ⟨⟨#[]⟩, true, false⟩).1)) ∧ RelTo w base b (x.write ⟨⟨#[]⟩, true, false⟩).2 w') := by
  have H := Lib.hid (reel_write x hx ⟨⟨#[]⟩, true, false⟩ (by decide) base b v w h)
  generalize x.write ⟨⟨#[]⟩, true, false⟩ = r at *
  unfold Bk.cells at H
  (go_enter Try.func17, Try.ntmps17)
  go_wp2_with fail
  refine H.out.mono ?_; rintro e w1 ⟨rfl, hR⟩
  go_wp2_with fail
  go_ret
  exact ⟨rfl, hR⟩
theorem reel_Len (x : Vol) (base b : Nat) (v : Value) (w : World) (h : RelV w base b v x) : Calls Try.prog 14 #[.pointer (some ⟨b, 0, none⟩)] w (Same (.int .i64 ((x.bl.length : Nat))) w) := by
  obtain ⟨ao, cap, rfl, _, hcm, _, _⟩ := Sl.of_own h.own
  unfold maxLen at hcm
  have c5 := h.blk.cell 5
  simp only [Vol.cells, List.getElem?_toArray, List.getElem?_cons_zero, List.getElem?_cons_succ] at c5
  (go_enter Try.func14, Try.ntmps14)
  go_wp2_with fail
  go_ret
  exact ⟨rfl, rfl⟩
theorem reel_At (x : Vol) (base b : Nat) (v : Value) (w : World) (h : RelV w base b v x) : Calls Try.prog 16 #[.pointer (some ⟨b, 0, none⟩)] w (Same (.int .i64 ((x.pos : Nat))) w) := by
  have c7 := h.blk.cell 7
  simp only [Vol.cells, List.getElem?_toArray, List.getElem?_cons_zero, List.getElem?_cons_succ] at c7
  (go_enter Try.func16, Try.ntmps16)
  go_wp2_with fail
  go_ret
  exact ⟨rfl, rfl⟩
theorem reel_Flush (x : Vol) (hx : x.Ok) (base b : Nat) (v : Value) (w : World) (h : RelV w base b v x) :
    Calls Try.prog 19 #[.pointer (some ⟨b, 0, none⟩)] w (fun e w' => e = .returned (.int .i64 (x.flush.1)) ∧ RelTo w base b x.flush.2 w') := by
  obtain ⟨room, used, lost, fail, label, bl, safe, pos, prot, er⟩ := x
  obtain ⟨o1, o2, o3, o4, o5, o6, o7, o8, o9⟩ := hx
  simp only at o1 o2 o3 o4 o5 o6 o7 o8 o9
  obtain ⟨a, f, hq⟩ : ∃ a f, tryR lost fail = (a, f) := ⟨_, _, rfl⟩
  have hb1 : Blk w b #[.int .i64 (room), .int .i64 (used), .bool lost, .int .i64 (fail), .string label, v, .int .i64 ((safe : Nat)), .int .i64 ((pos : Nat)), .bool prot, .int .i64 (er)] 36 := h.blk
  have HTr := Lib.hid (try_blk _ 2 _ _ _ lost fail hb1 rfl rfl o4 a f #[.int .i64 (room), .int .i64 (used), .bool lost, .int .i64 (f), .string label, v, .int .i64 ((safe : Nat)), .int .i64 ((pos : Nat)), .bool prot, .int .i64 (er)] hq rfl)
  unfold Vol.flush
  simp only [hq]
  obtain ⟨ao, cap, rfl, _, hcm, _, _⟩ := Sl.of_own h.own
  unfold maxLen at hcm
  clear hb1
  by_cases ha : a = 0
  · subst ha
    rw [if_neg (by simp)]
    (go_enter Try.func19, Try.ntmps19)
    go_wp2_with fail
    refine HTr.out.mono ?_; rintro e w2 ⟨rfl, hb2, hO2⟩
    obtain ⟨hR2, hS2⟩ := h.now (x' := ⟨room, used, lost, f, label, bl, safe, pos, prot, er⟩) hb2 hO2 rfl
    have c5 := hb2.cell 5
    have c6 := hb2.cell 6
    have f6 := hb2.frozen 6
    simp only [List.getElem?_toArray, List.getElem?_cons_zero, List.getElem?_cons_succ] at c5 c6
    have hb3 : Blk (w2.setCell ⟨b, 6, none⟩ (.int .i64 ((bl.length : Nat)))) b #[.int .i64 (room), .int .i64 (used), .bool lost, .int .i64 (f), .string label, .slice ao bl.length cap, .int .i64 ((bl.length : Nat)), .int .i64 ((pos : Nat)), .bool prot, .int .i64 (er)] 36 := by simpa using hb2.set 6 (.int .i64 ((bl.length : Nat)))
    obtain ⟨hR3, hS3⟩ := hR2.now (x' := ⟨room, used, lost, f, label, bl, bl.length, pos, prot, er⟩) hb3 ((Only.refl _ _).setCell _ _ (fun _ => rfl)) rfl
    go_wp2_with fail
    go_ret
    exact ⟨rfl, _, hR3, relS_trans hS2 hS3⟩
  · rw [if_pos ha]
    have ha1 : (a == 0) = false := by simpa using ha
    have ha2 : (a != 0) = true := by simpa using ha
    (go_enter Try.func19, Try.ntmps19)
    go_wp2_with fail
    refine HTr.out.mono ?_; rintro e w2 ⟨rfl, hb2, hO2⟩
    obtain ⟨hR2, hS2⟩ := h.now (x' := ⟨room, used, lost, f, label, bl, safe, pos, prot, er⟩) hb2 hO2 rfl
    go_wp2_with fail
    go_ret
    exact ⟨rfl, _, hR2, hS2⟩
theorem reel_Seek (x : Vol) (hx : x.Ok) (n : Int) (hn : -9223372036854775808 ≤ n ∧ n ≤ 9223372036854775807) (base b : Nat) (v : Value) (w : World) (h : RelV w base b v x) :
    Calls Try.prog 15 #[.pointer (some ⟨b, 0, none⟩), .int .i64 (n)] w (fun e w' => e = .returned (.int .i64 ((x.seek n).1)) ∧ RelTo w base b (x.seek n).2 w') := by
  obtain ⟨room, used, lost, fail, label, bl, safe, pos, prot, er⟩ := x
  obtain ⟨o1, o2, o3, o4, o5, o6, o7, o8, o9⟩ := hx
  simp only at o1 o2 o3 o4 o5 o6 o7 o8 o9
  obtain ⟨a, f, hq⟩ : ∃ a f, tryR lost fail = (a, f) := ⟨_, _, rfl⟩
  have hb1 : Blk w b #[.int .i64 (room), .int .i64 (used), .bool lost, .int .i64 (fail), .string label, v, .int .i64 ((safe : Nat)), .int .i64 ((pos : Nat)), .bool prot, .int .i64 (er)] 36 := h.blk
  have HTr := Lib.hid (try_blk _ 2 _ _ _ lost fail hb1 rfl rfl o4 a f #[.int .i64 (room), .int .i64 (used), .bool lost, .int .i64 (f), .string label, v, .int .i64 ((safe : Nat)), .int .i64 ((pos : Nat)), .bool prot, .int .i64 (er)] hq rfl)
  unfold Vol.seek
  simp only [hq]
  obtain ⟨ao, cap, rfl, _, hcm, _, _⟩ := Sl.of_own h.own
  unfold maxLen at hcm
  clear hb1
  by_cases ha : a = 0
  · subst ha
    rw [if_neg (by simp)]
    by_cases hneg : n < 0
    · rw [if_pos (Or.inl hneg)]
      (go_enter Try.func15, Try.ntmps15)
      go_wp2_with fail
      refine HTr.out.mono ?_; rintro e w2 ⟨rfl, hb2, hO2⟩
      obtain ⟨hR2, hS2⟩ := h.now (x' := ⟨room, used, lost, f, label, bl, safe, pos, prot, er⟩) hb2 hO2 rfl
      go_wp2_with fail
      go_ret
      exact ⟨rfl, _, hR2, hS2⟩
    · obtain ⟨n, rfl⟩ := Int.eq_ofNat_of_zero_le (by omega : 0 ≤ n)
      by_cases hbig : (bl.length : Int) < n
      · rw [if_pos (Or.inr hbig)]
        (go_enter Try.func15, Try.ntmps15)
        go_wp2_with fail
        refine HTr.out.mono ?_; rintro e w2 ⟨rfl, hb2, hO2⟩
        obtain ⟨hR2, hS2⟩ := h.now (x' := ⟨room, used, lost, f, label, bl, safe, pos, prot, er⟩) hb2 hO2 rfl
        have c5 := hb2.cell 5
        simp only [List.getElem?_toArray, List.getElem?_cons_zero, List.getElem?_cons_succ] at c5
        go_wp2_with fail
        go_ret
        exact ⟨rfl, _, hR2, hS2⟩
      · rw [if_neg (by omega), show ((n : Int)).toNat = n from rfl]
        (go_enter Try.func15, Try.ntmps15)
        go_wp2_with fail
        refine HTr.out.mono ?_; rintro e w2 ⟨rfl, hb2, hO2⟩
        obtain ⟨hR2, hS2⟩ := h.now (x' := ⟨room, used, lost, f, label, bl, safe, pos, prot, er⟩) hb2 hO2 rfl
        have c5 := hb2.cell 5
        have c7 := hb2.cell 7
        have f7 := hb2.frozen 7
        simp only [List.getElem?_toArray, List.getElem?_cons_zero, List.getElem?_cons_succ] at c5 c7
        have hb3 : Blk (w2.setCell ⟨b, 7, none⟩ (.int .i64 ((n : Nat)))) b #[.int .i64 (room), .int .i64 (used), .bool lost, .int .i64 (f), .string label, .slice ao bl.length cap, .int .i64 ((safe : Nat)), .int .i64 ((n : Nat)), .bool prot, .int .i64 (er)] 36 := by simpa using hb2.set 7 (.int .i64 ((n : Nat)))
        obtain ⟨hR3, hS3⟩ := hR2.now (x' := ⟨room, used, lost, f, label, bl, safe, n, prot, er⟩) hb3 ((Only.refl _ _).setCell _ _ (fun _ => rfl)) rfl
        go_wp2_with fail
        go_ret
        exact ⟨rfl, _, hR3, relS_trans hS2 hS3⟩
  · rw [if_pos ha]
    have ha1 : (a == 0) = false := by simpa using ha
    have ha2 : (a != 0) = true := by simpa using ha
    (go_enter Try.func15, Try.ntmps15)
    go_wp2_with fail
    refine HTr.out.mono ?_; rintro e w2 ⟨rfl, hb2, hO2⟩
    obtain ⟨hR2, hS2⟩ := h.now (x' := ⟨room, used, lost, f, label, bl, safe, pos, prot, er⟩) hb2 hO2 rfl
    go_wp2_with fail
    go_ret
    exact ⟨rfl, _, hR2, hS2⟩
/-- a new volume -/
def Vol.new (room : Int) : Vol := ⟨room, 0, false, 0, ⟨#[]⟩, [], 0, 0, false, 0⟩
theorem reel_New (r m : Int) (hm : m = max r 0) (hr : r ≤ 4611686018427387904) (w : World) : Calls Try.prog 10 #[.int .i64 (r)] w (fun e w' => ∃ b, e = .returned (.pointer (some ⟨b, 0, none⟩)) ∧ w.heap.size ≤ b ∧ b < w'.heap.size ∧ Below w.heap.size w w' ∧ RelV w' w'.heap.size b (.slice none 0 0) (Vol.new m)) := by
  (go_enter Try.func10, Try.ntmps10)
  go_wp2_with fail
  refine (meter_made r m hm w).mono ?_; rintro e w1 ⟨rfl, rfl⟩
  go_wp2_with fail
  go_ret
  subst hm
  refine ⟨w.heap.size + 1, rfl, by omega, by simp, (by repeat' (first | exact Below.refl _ _ | assumption | refine Below.setCell ?_ (by first | omega | (simp; done) | (simp; omega)) _ | refine Below.alloc ?_ (by first | omega | (simp; done) | (simp; omega)) _ | refine below_drew ?_ _ | apply Below.drew)), ⟨?_, World.ownsRow_nil _ _ _ _, Nat.le_refl _⟩⟩
  exact Blk.new' (by simp)
end Go.Proofs.Ytdgaknpocbnomaa
