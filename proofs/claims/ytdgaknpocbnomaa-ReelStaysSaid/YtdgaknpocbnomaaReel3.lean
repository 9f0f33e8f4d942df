/- What Read of a volume answers. No condition. -/
import Derived.Test.YtdgaknpocbnomaaReel2
set_option linter.unusedSimpArgs false
set_option linter.unusedVariables false
namespace Go.Proofs.Ytdgaknpocbnomaa
open Go.RowKit
set_option maxHeartbeats 2000000
set_option maxRecDepth 100000

/-- the next block, plainly: its text, whether it is a mark, the error -/
def Vol.read (x : Vol) : (ByteArray × Bool × Int) × Vol :=
  if (tryR x.lost x.fail).1 ≠ 0 then ((⟨#[]⟩, false, (tryR x.lost x.fail).1), { x with fail := (tryR x.lost x.fail).2 })
  else match x.bl[x.pos]? with
    | none => ((⟨#[]⟩, false, 2), { x with fail := (tryR x.lost x.fail).2 })
    | some k => if k.torn = true then ((⟨#[]⟩, false, 4), { x with fail := (tryR x.lost x.fail).2 }) else ((k.s, k.mark, 0), { x with fail := (tryR x.lost x.fail).2, pos := x.pos + 1 })
theorem RelV.drewN {w : World} {base b : Nat} {v : Value} {x : Vol} (h : RelV w base b v x) (n : Nat) : RelV (w.drewN n) base b v x := ⟨h.blk, h.own, h.le⟩
theorem reel_Read (x : Vol) (hx : x.Ok) (base b : Nat) (v : Value) (w : World) (h : RelV w base b v x) :
    Calls Try.prog 23 #[.pointer (some ⟨b, 0, none⟩)] w (fun e w' => e = .returned (.tuple #[.string x.read.1.1, .bool x.read.1.2.1, .int .i64 (x.read.1.2.2)]) ∧ RelTo w base b x.read.2 w') := by
  obtain ⟨room, used, lost, fail, label, bl, safe, pos, prot, er⟩ := x
  obtain ⟨o1, o2, o3, o4, o5, o6, o7, o8, o9⟩ := hx
  simp only at o1 o2 o3 o4 o5 o6 o7 o8 o9
  obtain ⟨a, f, hq⟩ : ∃ a f, tryR lost fail = (a, f) := ⟨_, _, rfl⟩
  have hb1 : Blk w b #[.int .i64 (room), .int .i64 (used), .bool lost, .int .i64 (fail), .string label, v, .int .i64 ((safe : Nat)), .int .i64 ((pos : Nat)), .bool prot, .int .i64 (er)] 36 := h.blk
  have HTr := Lib.hid (try_blk _ 2 _ _ _ lost fail hb1 rfl rfl o4 a f #[.int .i64 (room), .int .i64 (used), .bool lost, .int .i64 (f), .string label, v, .int .i64 ((safe : Nat)), .int .i64 ((pos : Nat)), .bool prot, .int .i64 (er)] hq rfl)
  unfold Vol.read
  simp only [hq]
  obtain ⟨ao, cap, rfl, _, hcm, _, hsl⟩ := Sl.of_own h.own
  unfold maxLen at hcm
  clear hb1
  by_cases ha : a = 0
  · subst ha
    rw [if_neg (by simp)]
    rcases Nat.lt_or_ge pos bl.length with hlt | hge
    · obtain ⟨g, off, rfl, _, _⟩ := hsl (by simp only; omega)
      have g0 := bkv_get bl pos hlt 0 (by omega)
      have g1 := bkv_get bl pos hlt 1 (by omega)
      have g2 := bkv_get bl pos hlt 2 (by omega)
      rw [List.getElem?_eq_getElem hlt]
      simp only
      generalize bl[pos] = k at *
      obtain ⟨s, mk, tn⟩ := k
      simp only [Bk.cells, List.getElem?_cons_succ, List.getElem?_cons_zero] at g0 g1 g2 ⊢
      obtain ⟨res, hres⟩ : ∃ res : (ByteArray × Bool × Int) × Vol, res = (if tn = true then ((⟨#[]⟩, false, 4), ⟨room, used, lost, f, label, bl, safe, pos, prot, er⟩) else ((s, mk, 0), ⟨room, used, lost, f, label, bl, safe, pos + 1, prot, er⟩)) := ⟨_, rfl⟩
      rw [← hres]
      have Hres := Lib.hid hres
      have G0 := Lib.hid g0
      have G1 := Lib.hid g1
      have G2 := Lib.hid g2
      clear hres g0 g1 g2 hsl
      (go_enter Try.func23, Try.ntmps23)
      go_wp2_with fail
      refine HTr.out.mono ?_; rintro e w2 ⟨rfl, hb2, hO2⟩
      obtain ⟨hR2, hS2⟩ := h.now (x' := ⟨room, used, lost, f, label, bl, safe, pos, prot, er⟩) hb2 hO2 rfl
      have c5 := hb2.cell 5
      have c7 := hb2.cell 7
      simp only [List.getElem?_toArray, List.getElem?_cons_zero, List.getElem?_cons_succ] at c5 c7
      have hpi : (pos : Int) < (bl.length : Int) := by omega
      have e0 := own_last hR2.own G0.out (by first | omega | (simp only; omega))
      have e1 := own_last hR2.own G1.out (by first | omega | (simp only; omega))
      have e2 := own_last hR2.own G2.out (by first | omega | (simp only; omega))
      rw [← Nat.add_assoc] at e0 e1 e2
      rw [Nat.add_zero] at e0
      go_wp2_with fail
      go_quiet (fail)
      obtain ⟨wd, hwd⟩ : ∃ wd, wd = w2.drewN nq := ⟨_, rfl⟩
      rw [← hwd]
      have c5' : wd.cell? ⟨b, 5, none⟩ = some (.slice (some ⟨g, off, none⟩) bl.length cap) := by rw [hwd]; exact c5
      have c7' : wd.cell? ⟨b, 7, none⟩ = some (.int .i64 ((pos : Nat))) := by rw [hwd]; exact c7
      have e0' : wd.cell? ⟨g, off + pos * 3, none⟩ = some (.string s) := by rw [hwd]; exact e0
      have e1' : wd.cell? ⟨g, off + pos * 3 + 1, none⟩ = some (.bool mk) := by rw [hwd]; exact e1
      have e2' : wd.cell? ⟨g, off + pos * 3 + 2, none⟩ = some (.bool tn) := by rw [hwd]; exact e2
      have hRd : RelV wd base b (.slice (some ⟨g, off, none⟩) bl.length cap) ⟨room, used, lost, f, label, bl, safe, pos, prot, er⟩ := hwd ▸ hR2.drewN nq
      have hSd : Only (relS w base b) w wd := hwd ▸ hS2.drewN nq
      clear hwd c5 c7 e0 e1 e2 hR2 hS2 hb2 hO2
      have hgl : g < wd.heap.size := by
        obtain ⟨_, _, ev, _, _, _, hs⟩ := Sl.of_own hRd.own
        cases ev
        obtain ⟨g', off', e', hb', _⟩ := hs (by first | omega | (simp only; omega))
        cases e'
        exact hb'
      have hbl := hRd.blk.lt
      have hAl : Below wd.heap.size wd (wd.alloc (.cells #[.string ⟨#[]⟩, .bool false, .bool false] 72)) := (by repeat' (first | exact Below.refl _ _ | assumption | refine Below.setCell ?_ (by first | omega | (simp; done) | (simp; omega)) _ | refine Below.alloc ?_ (by first | omega | (simp; done) | (simp; omega)) _ | refine below_drew ?_ _ | apply Below.drew))
      have A5 := (hAl.cell (p := ⟨b, 5, none⟩) hbl).trans c5'
      have A7 := (hAl.cell (p := ⟨b, 7, none⟩) hbl).trans c7'
      have B0 := (hAl.cell (p := ⟨g, off + pos * 3, none⟩) hgl).trans e0'
      have B1 := (hAl.cell (p := ⟨g, off + pos * 3 + 1, none⟩) hgl).trans e1'
      have B2 := (hAl.cell (p := ⟨g, off + pos * 3 + 2, none⟩) hgl).trans e2'
      go_wp2_with fail
      go_region
      have hq0 : Blk (wd.alloc (.cells #[.string s, .bool mk, .bool tn] 72)).drew wd.heap.size #[.string s, .bool mk, .bool tn] 72 := Blk.new _ _ _
      have hAq : Below wd.heap.size wd (wd.alloc (.cells #[.string s, .bool mk, .bool tn] 72)).drew := below_drew ((Below.refl _ _).alloc (Nat.le_refl _) _) 1
      obtain ⟨hRq, hSq⟩ := hRd.below hAq
      have hSq2 := relS_trans hSd hSq
      have hne : wd.heap.size ≠ b := by omega
      clear A5 A7 B0 B1 B2 c5' c7' e0' e1' e2' hRd hSd hSq hAl
      generalize hwq : (wd.alloc (.cells #[.string s, .bool mk, .bool tn] 72)).drew = wq at *
      clear hwq
      have k0 := hq0.cell 0
      have k1 := hq0.cell 1
      have k2 := hq0.cell 2
      have hbq := hRq.blk
      simp only [Vol.cells] at hbq
      have k7 := hbq.cell 7
      have l7 := hbq.frozen 7
      simp only [List.getElem?_toArray, List.getElem?_cons_zero, List.getElem?_cons_succ] at k0 k1 k2 k7
      cases tn with
      | true =>
        have hr := Hres.out
        rw [if_pos rfl] at hr
        have Hr := Lib.hid hr
        clear hr
        go_wp2_with fail
        rw [Hr.out]
        go_ret3
        exact ⟨rfl, _, hRq, hSq2⟩
      | false =>
        have hr := Hres.out
        rw [if_neg (by simp)] at hr
        have Hr := Lib.hid hr
        have hb7 : Blk (wq.setCell ⟨b, 7, none⟩ (.int .i64 (((pos + 1 : Nat) : Int)))) b #[.int .i64 (room), .int .i64 (used), .bool lost, .int .i64 (f), .string label, .slice (some ⟨g, off, none⟩) bl.length cap, .int .i64 ((safe : Nat)), .int .i64 ((pos + 1 : Nat)), .bool prot, .int .i64 (er)] 36 := by simpa using hbq.set 7 (.int .i64 (((pos + 1 : Nat) : Int)))
        obtain ⟨hR7, hS7⟩ := hRq.now (x' := ⟨room, used, lost, f, label, bl, safe, pos + 1, prot, er⟩) hb7 ((Only.refl _ _).setCell _ _ (fun _ => rfl)) rfl
        have hS8 := relS_trans hSq2 hS7
        have hq7 := hq0.far ⟨b, 7, none⟩ (fun e => hne e.symm) (.int .i64 (((pos + 1 : Nat) : Int)))
        have HR7 := Lib.hid hR7
        have HS8 := Lib.hid hS8
        have HQ7 := Lib.hid hq7
        clear hr hb7 hR7 hS7 hS8 hSq2 hRq hq7
        go_wp2_with fail
        obtain ⟨wz, hwz⟩ : ∃ wz, wz = wq.setCell ⟨b, 7, none⟩ (.int .i64 (((pos : Nat) : Int) + 1)) := ⟨_, rfl⟩
        rw [← hwz]
        have ec : (.int .i64 (((pos + 1 : Nat) : Int)) : Value) = .int .i64 (((pos : Nat) : Int) + 1) := by push_cast; rfl
        have h7 := HR7.out
        have h8 := HS8.out
        have h9 := HQ7.out
        rw [ec, ← hwz] at h7 h8 h9
        have z0 := h9.cell 0
        have z1 := h9.cell 1
        simp only [List.getElem?_toArray, List.getElem?_cons_zero, List.getElem?_cons_succ] at z0 z1
        clear hwz HR7 HS8 HQ7 h9 k0 k1 k2 k7 l7
        go_quiet (fail)
        go_wp2_with fail
        rw [Hr.out]
        go_ret3
        exact ⟨rfl, _, h7.drewN _, h8.drewN _⟩
    · rw [List.getElem?_eq_none hge]
      simp only
      clear hsl
      (go_enter Try.func23, Try.ntmps23)
      go_wp2_with fail
      refine HTr.out.mono ?_; rintro e w2 ⟨rfl, hb2, hO2⟩
      obtain ⟨hR2, hS2⟩ := h.now (x' := ⟨room, used, lost, f, label, bl, safe, pos, prot, er⟩) hb2 hO2 rfl
      have c5 := hb2.cell 5
      have c7 := hb2.cell 7
      simp only [List.getElem?_toArray, List.getElem?_cons_zero, List.getElem?_cons_succ] at c5 c7
      have hpi : (bl.length : Int) ≤ pos := by omega
      go_wp2_with fail
      go_quiet (fail)
      go_wp2_with fail
      go_ret3
      exact ⟨rfl, _, hR2.drewN _, hS2.drewN _⟩
  · rw [if_pos ha]
    have ha1 : (a == 0) = false := by simpa using ha
    have ha2 : (a != 0) = true := by simpa using ha
    clear hsl
    (go_enter Try.func23, Try.ntmps23)
    go_wp2_with fail
    refine HTr.out.mono ?_; rintro e w2 ⟨rfl, hb2, hO2⟩
    obtain ⟨hR2, hS2⟩ := h.now (x' := ⟨room, used, lost, f, label, bl, safe, pos, prot, er⟩) hb2 hO2 rfl
    go_wp2_with fail
    go_ret3
    exact ⟨rfl, _, hR2, hS2⟩
end Go.Proofs.Ytdgaknpocbnomaa
