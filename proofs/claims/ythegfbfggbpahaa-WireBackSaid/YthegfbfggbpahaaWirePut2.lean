/- What 'put' of the law's package writes of a Thing. No condition. -/
import Derived.Test.YthegfbfggbpahaaWirePut
set_option linter.unusedSimpArgs false
set_option linter.unusedVariables false
namespace Go.Proofs.Ythegfbfggbpahaa
open Go.RowKit
set_option maxHeartbeats 1000000
set_option maxRecDepth 100000

def Th.put (t : Th) : List UInt8 :=
  if t.kd = 1 then Wire.num t.u else if t.kd = 2 then Wire.num t.n.toNat else if t.kd = 3 then [if t.is then 1 else 0]
  else if t.kd = 4 then Wire.text (bs (t.s.data.toList.take 200)) else if t.kd = 5 then Wire.num (t.l.take 20).length ++ Wire.nums (t.l.take 20) else []
theorem EncTo.below {w w1 w2 : World} {base b : Nat} {l : List UInt8} (h : EncTo w base b l w1) (k : Below w1.heap.size w1 w2) : EncTo w base b l w2 := by
  obtain ⟨v, hE, hO⟩ := h
  exact ⟨v, hE.below k, hO.trans (only_of_below k (fun _ => False)) (fun _ _ e => e.elim)⟩
theorem not_encS {w : World} {base b g : Nat} {cs : Array Value} {T : TypeId} (h : Blk w g cs T) (hb : g ≠ b) (hT : T ≠ 5) : ¬ encS w base b g := by
  rintro (e | ⟨_, cs', fr, e⟩)
  · exact hb e
  · unfold Blk at h
    rw [h] at e
    injection e with e
    injection e with _ e
    exact hT e
theorem law_put (W0 : World) (t : Th) (ht : t.Ok W0) (base b : Nat) (v : Value) (l : List UInt8) (hlen : l.length + 1100000 ≤ 100000000) (w : World) (hE : EncV w base b v l) (hB : Below W0.heap.size W0 w) (h1 : W0.heap.size ≤ base) (h2 : W0.heap.size ≤ b) :
    Calls Try.prog 17 #[.pointer (some ⟨b, 0, none⟩), .agg #[.int .i64 (t.kd), .int .i64 (t.n), .int .i64 (t.m), .int .u64 (t.u : Int), .bool t.is, .string t.s, .slice t.ao t.l.length t.cap]] w (fun e w' => (∃ s, e = .returned (.string s)) ∧ EncTo w base b (l ++ t.put) w') := by
  obtain ⟨o1, o2, o3, o4, o5, o6, o7⟩ := ht
  obtain ⟨kd, n, m, u, is, s, ao, cap, tl⟩ := t
  simp only at o1 o2 o3 o4 o5 o6 o7 ⊢
  unfold maxLen at o5
  have hbx : Blk (w.alloc (.cells #[.int .i64 (kd), .int .i64 (n), .int .i64 (m), .int .u64 (u : Int), .bool is, .string s, .slice ao tl.length cap] 49)) w.heap.size #[.int .i64 (kd), .int .i64 (n), .int .i64 (m), .int .u64 (u : Int), .bool is, .string s, .slice ao tl.length cap] 49 := Blk.new _ _ _
  have hEx := hE.alloc (.cells #[.int .i64 (kd), .int .i64 (n), .int .i64 (m), .int .u64 (u : Int), .bool is, .string s, .slice ao tl.length cap] 49)
  have hne : w.heap.size ≠ b := by have := hE.blk.lt; omega
  have HBx := Lib.hid hbx
  have hsz1 : ∀ o, (w.alloc o).heap.size = w.heap.size + 1 := fun o => by simp
  unfold Th.put
  simp only
  by_cases k1 : kd = 1
  · subst k1
    rw [if_pos rfl]
    have hU := enc_U1 u o4 base b v l (by omega) _ hEx
    rw [hsz1] at hU
    have HU := Lib.hid hU
    clear hU hsz1
    clear hbx
    (go_enter Try.func17, Try.ntmps17)
    go_wp2_with fail
    refine HU.out.mono ?_; rintro e w1 ⟨rfl, hto⟩
    have hb1 := HBx.out.keep hto.choose_spec.2 (not_encS HBx.out hne (by decide))
    have hc01 := hb1.cell 0
    have hc11 := hb1.cell 1
    have hc21 := hb1.cell 2
    have hc31 := hb1.cell 3
    have hc41 := hb1.cell 4
    have hc51 := hb1.cell 5
    have hc61 := hb1.cell 6
    simp only [List.getElem?_toArray, List.getElem?_cons_zero, List.getElem?_cons_succ] at hc01 hc11 hc21 hc31 hc41 hc51 hc61
    go_wp2_with fail
    refine (ref_U u o4 _).mono ?_; rintro e w2 ⟨s2, rfl, _, hB2⟩
    go_wp2_with fail
    go_ret
    exact ⟨⟨_, rfl⟩, hto.unalloc.below hB2⟩
  by_cases k2 : kd = 2
  · subst k2
    rw [if_neg k1, if_pos rfl]
    have hU := enc_I1 n o2 base b v l (by omega) _ hEx
    rw [hsz1] at hU
    have HU := Lib.hid hU
    clear hU hsz1
    clear hbx
    (go_enter Try.func17, Try.ntmps17)
    go_wp2_with fail
    refine HU.out.mono ?_; rintro e w1 ⟨rfl, hto⟩
    have hb1 := HBx.out.keep hto.choose_spec.2 (not_encS HBx.out hne (by decide))
    have hc01 := hb1.cell 0
    have hc11 := hb1.cell 1
    have hc21 := hb1.cell 2
    have hc31 := hb1.cell 3
    have hc41 := hb1.cell 4
    have hc51 := hb1.cell 5
    have hc61 := hb1.cell 6
    simp only [List.getElem?_toArray, List.getElem?_cons_zero, List.getElem?_cons_succ] at hc01 hc11 hc21 hc31 hc41 hc51 hc61
    go_wp2_with fail
    refine (ref_I n o2 _).mono ?_; rintro e w2 ⟨s2, rfl, _, hB2⟩
    go_wp2_with fail
    go_ret
    exact ⟨⟨_, rfl⟩, hto.unalloc.below hB2⟩
  by_cases k3 : kd = 3
  · subst k3
    rw [if_neg k1, if_neg k2, if_pos rfl]
    obtain ⟨y, hy⟩ : ∃ y : UInt8, y = if is then 1 else 0 := ⟨_, rfl⟩
    rw [← hy]
    have hU := enc_B1 is base b v l (by omega) _ hEx
    rw [hsz1, ← hy] at hU
    have HU := Lib.hid hU
    clear hU hsz1 hy
    clear hbx
    (go_enter Try.func17, Try.ntmps17)
    go_wp2_with fail
    refine HU.out.mono ?_; rintro e w1 ⟨rfl, hto⟩
    have hb1 := HBx.out.keep hto.choose_spec.2 (not_encS HBx.out hne (by decide))
    have hc01 := hb1.cell 0
    have hc11 := hb1.cell 1
    have hc21 := hb1.cell 2
    have hc31 := hb1.cell 3
    have hc41 := hb1.cell 4
    have hc51 := hb1.cell 5
    have hc61 := hb1.cell 6
    simp only [List.getElem?_toArray, List.getElem?_cons_zero, List.getElem?_cons_succ] at hc01 hc11 hc21 hc31 hc41 hc51 hc61
    go_wp2_with fail
    refine (ref_B is _).mono ?_; rintro e w2 ⟨s2, rfl, _, hB2⟩
    go_wp2_with fail
    go_ret
    exact ⟨⟨_, rfl⟩, hto.unalloc.below hB2⟩
  by_cases k4 : kd = 4
  · subst k4
    rw [if_neg k1, if_neg k2, if_neg k3, if_pos rfl]
    have HC := fun wx => Lib.hid (law_Cut s (by omega) 200 (by omega) wx)
    obtain ⟨x, hx⟩ : ∃ x, x = bs (s.data.toList.take 200) := ⟨_, rfl⟩
    have hxs : x.size ≤ 200 := by rw [hx, bs_size]; simp; omega
    rw [← hx] at HC ⊢
    have hU := enc_S1 x (by omega) base b v l (by omega) _ hEx
    rw [hsz1] at hU
    have HU := Lib.hid hU
    clear hU hsz1
    have HC := Lib.hid HC
    clear hbx hx
    (go_enter Try.func17, Try.ntmps17)
    go_wp2_with fail
    refine (HC.out _).out.mono ?_; rintro e w1 ⟨rfl, rfl⟩
    go_wp2_with fail
    refine HU.out.mono ?_; rintro e w1 ⟨rfl, hto⟩
    have hb1 := HBx.out.keep hto.choose_spec.2 (not_encS HBx.out hne (by decide))
    have hc01 := hb1.cell 0
    have hc11 := hb1.cell 1
    have hc21 := hb1.cell 2
    have hc31 := hb1.cell 3
    have hc41 := hb1.cell 4
    have hc51 := hb1.cell 5
    have hc61 := hb1.cell 6
    simp only [List.getElem?_toArray, List.getElem?_cons_zero, List.getElem?_cons_succ] at hc01 hc11 hc21 hc31 hc41 hc51 hc61
    go_wp2_with fail
    refine (HC.out _).out.mono ?_; rintro e w2 ⟨rfl, rfl⟩
    go_wp2_with fail
    refine (ref_S x (by omega) _).mono ?_; rintro e w2 ⟨s2, rfl, _, hB2⟩
    go_wp2_with fail
    go_ret
    exact ⟨⟨_, rfl⟩, hto.unalloc.below hB2⟩
  by_cases k5 : kd = 5
  · subst k5
    rw [if_neg k1, if_neg k2, if_neg k3, if_neg k4, if_pos rfl]
    obtain ⟨ao', cap', ev, q1, q2, _, _⟩ := id o7
    cases ev
    unfold maxLen at q2
    obtain ⟨mm, hmm, hml⟩ : ∃ mm : Nat, mm = (tl.take 20).length ∧ mm ≤ tl.length := ⟨_, rfl, by simp; omega⟩
    have hm20 : mm ≤ 20 := by rw [hmm]; simp; omega
    have hS := o7.cut hml
    rw [show (i64v tl).take mm = i64v (tl.take 20) by rw [i64v, ← List.map_take, hmm, List.length_take]; congr 1; simp] at hS
    have hb20 : ∀ x ∈ tl.take 20, -9223372036854775808 ≤ x ∧ x ≤ 9223372036854775807 := fun x hx => o6 x (List.mem_of_mem_take hx)
    have hBx : Below W0.heap.size W0 (w.alloc (.cells #[.int .i64 (5), .int .i64 (n), .int .i64 (m), .int .u64 (u : Int), .bool is, .string s, .slice ao tl.length cap] 49)) := hB.alloc hB.size _
    have hmin : (if (20 : Int) < (tl.length : Int) then (20 : Int) else (tl.length : Int)) = (mm : Int) := by rw [hmm, List.length_take]; split <;> omega
    generalize tl.take 20 = xs at *
    rw [hmm] at hS hmin
    have HS := Lib.hid hS
    have HX := Lib.hid hb20
    have hap := apart_old hS h1 h2 (w := (w.alloc (.cells #[.int .i64 (5), .int .i64 (n), .int .i64 (m), .int .u64 (u : Int), .bool is, .string s, .slice ao tl.length cap] 49)))
    have HU := Lib.hid (enc_List xs hb20 base b v l (by omega) _ _ hEx (hS.below hBx) hap (by
      intro ao n c e h0 a ha
      obtain ⟨_, _, e2, _, _, _, h5⟩ := hS
      cases e
      cases e2
      obtain ⟨bb, off, e3, hb, _⟩ := h5 h0
      rw [e3] at ha
      cases ha
      have := hBx.size
      simp only
      omega))
    have HBW := Lib.hid hBx
    clear hbx hap hBx hS hmm hb20 o6
    (go_enter Try.func17, Try.ntmps17)
    go_wp2_with fail
    refine HU.out.mono ?_; rintro e w1 ⟨rfl, hto⟩
    have hBw1 : Below W0.heap.size W0 w1 := only_below' HBW.out hto.choose_spec.2 h1 h2 (Nat.le_refl _)
    have hb1 := HBx.out.keep hto.choose_spec.2 (not_encS HBx.out hne (by decide))
    have hc01 := hb1.cell 0
    have hc11 := hb1.cell 1
    have hc21 := hb1.cell 2
    have hc31 := hb1.cell 3
    have hc41 := hb1.cell 4
    have hc51 := hb1.cell 5
    have hc61 := hb1.cell 6
    simp only [List.getElem?_toArray, List.getElem?_cons_zero, List.getElem?_cons_succ] at hc01 hc11 hc21 hc31 hc41 hc51 hc61
    go_wp2_with fail
    refine (ref_L ao cap xs (by omega) HX.out _ (HS.out.below hBw1)).mono ?_; rintro e w2 ⟨s2, rfl, _, hB2⟩
    go_wp2_with fail
    go_ret
    refine ⟨⟨_, rfl⟩, ?_⟩
    have := hto.unalloc.below hB2
    rwa [List.append_assoc] at this
  · rw [if_neg k1, if_neg k2, if_neg k3, if_neg k4, if_neg k5]
    (go_enter Try.func17, Try.ntmps17)
    go_wp2_with fail
    go_ret
    refine ⟨⟨_, rfl⟩, v, ?_, ?_⟩
    · simpa using hEx
    · exact (Only.refl _ _).alloc _
end Go.Proofs.Ythegfbfggbpahaa
