/- Commands that are unlike have unlike bytes: the statement CommandApart holds of all arguments. No condition. -/
import Derived.Test.YtafdnalanmbcpaaL12Back
import Derived.Test.YtafdnalanmbcpaaL12Same2
set_option linter.unusedSimpArgs false
set_option linter.unusedVariables false
namespace Go.Proofs.Ytafdnalanmbcpaa
open Go.RowKit
set_option maxHeartbeats 4000000
set_option maxRecDepth 100000

theorem Cmd.Taken.ex (l : List UInt8) : ∃ t : Cmd.Taken, t.Of l := by
  obtain ⟨a1, h1⟩ : ∃ a, a = Wire.decI 14 l 0 := ⟨_, rfl⟩
  obtain ⟨a2, h2⟩ : ∃ a, a = Wire.decI 1073741824 a1.2.1 a1.2.2 := ⟨_, rfl⟩
  obtain ⟨a3, h3⟩ : ∃ a, a = Wire.decI 1073741824 a2.2.1 a2.2.2 := ⟨_, rfl⟩
  obtain ⟨a4, h4⟩ : ∃ a, a = Wire.decS 32 a3.2.1 a3.2.2 := ⟨_, rfl⟩
  obtain ⟨a5, h5⟩ : ∃ a, a = Wire.decU a4.2.1 a4.2.2 := ⟨_, rfl⟩
  obtain ⟨a6, h6⟩ : ∃ a, a = Wire.decI 4000 a5.2.1 a5.2.2 := ⟨_, rfl⟩
  obtain ⟨a7, h7⟩ : ∃ a, a = Wire.decU a6.2.1 a6.2.2 := ⟨_, rfl⟩
  obtain ⟨a8, h8⟩ : ∃ a, a = Wire.decL 6 5 a7.2.1 a7.2.2 := ⟨_, rfl⟩
  obtain ⟨a9, h9⟩ : ∃ a, a = Wire.decI 1 a8.2.1 a8.2.2 := ⟨_, rfl⟩
  obtain ⟨b1, g1⟩ : ∃ a, a = Wire.decI 11 a9.2.1 a9.2.2 := ⟨_, rfl⟩
  obtain ⟨b2, g2⟩ : ∃ a, a = Wire.decI 1073741824 b1.2.1 b1.2.2 := ⟨_, rfl⟩
  exact ⟨⟨a1, a2, a3, a4, a5, a6, a7, a8, a9, b1, b2⟩, ⟨h1, h2, h3, h4, h5, h6, h7, h8, h9, g1, g2⟩⟩
theorem Cmd.bytes_inj {a b : Cmd} (ha : a.Sound) (hb : b.Sound) : (a.bytes == b.bytes) = true ↔ a = b := by
  constructor
  · intro h
    have e : a.bytes = b.bytes := by simpa using h
    obtain ⟨t, ht⟩ := Cmd.Taken.ex a.bytes
    rw [← (Cmd.Taken.back ha ht).1, (Cmd.Taken.back hb (e ▸ ht)).1]
  · intro h
    rw [h]
    simp
/-- blocks but two stay -/
def KeepTwo (a b : Nat) (w w' : World) : Prop := w.heap.size ≤ w'.heap.size ∧ ∀ k, k < w.heap.size → k ≠ a → k ≠ b → w'.heap[k]? = w.heap[k]?
theorem KeepTwo.own {a b base n : Nat} {w w' : World} {v : Value} {xs : List Value} (k : KeepTwo a b w w') (h : w.ownsRow base 3 1 v n xs) (ha : a < base) (hb : b < base) : w'.ownsRow base 3 1 v n xs := by
  refine ⟨h.1, ?_⟩
  rcases h.2 with h2 | ⟨g, cap, cur, hv, hg, hh, r⟩
  · exact Or.inl h2
  · exact Or.inr ⟨g, cap, cur, hv, hg, (k.2 g (Array.getElem?_eq_some_iff.1 hh).1 (by omega) (by omega)).trans hh, r⟩
theorem KeepTwo.below {a b : Nat} {w w' : World} (h : Below w.heap.size w w') : KeepTwo a b w w' := ⟨h.size, fun k hk _ _ => h.block k hk⟩
theorem own_lower {w : World} {base base' : Nat} {e : TypeId} {sz n : Nat} {v : Value} {xs : List Value} (h : w.ownsRow base e sz v n xs) (hb : base' ≤ base) : w.ownsRow base' e sz v n xs := by
  refine ⟨h.1, ?_⟩
  rcases h.2 with h2 | ⟨g, cap, cur, hv, hg, r⟩
  · exact Or.inl h2
  · exact Or.inr ⟨g, cap, cur, hv, Nat.le_trans hb hg, r⟩
theorem CommandApart_walk (W : World) (v0 v1 : Value) (x0 : KCmd.den) (w0 : KCmd.Arg W v0 x0) (x1 : KCmd.den) (w1 : KCmd.Arg W v1 x1) : Calls Try.prog 6 #[v0, v1] W (Done W) := by
  obtain ⟨c1, ao1, cap1, rfl, hwf1, hnm1, hsl1⟩ := cmd_arg w0
  obtain ⟨c2, ao2, cap2, rfl, hwf2, hnm2, hsl2⟩ := cmd_arg w1
  clear w0 w1
  obtain ⟨k1, c1, s1, n1, b1, z1, u1, d1, p1, v1, t1⟩ := c1
  obtain ⟨k2, c2, s2, n2, b2, z2, u2, d2, p2, v2, t2⟩ := c2
  obtain ⟨f1, f2, f3, f4, f5, f6, f7, f8, f9, f10⟩ := hwf1
  obtain ⟨g1, g2, g3, g4, g5, g6, g7, g8, g9, g10⟩ := hwf2
  unfold Cmd.cells
  simp only at f1 f2 f3 f4 f5 f6 f7 f8 f9 f10 g1 g2 g3 g4 g5 g6 g7 g8 g9 g10 hnm1 hnm2 hsl1 hsl2 ⊢
  unfold maxLen at hnm1 hnm2
  have hA0 : Blk ((W.alloc (.cells #[.int .i64 (k1), .int .i64 (c1), .int .i64 (s1), .string (bs n1), .int .u64 (b1 : Int), .int .i64 (z1), .int .u32 (u1 : Int), .slice ao1 d1.length cap1, .int .i64 (p1), .int .i64 (v1), .int .i64 (t1)] 26)).alloc (.cells #[.int .i64 (k2), .int .i64 (c2), .int .i64 (s2), .string (bs n2), .int .u64 (b2 : Int), .int .i64 (z2), .int .u32 (u2 : Int), .slice ao2 d2.length cap2, .int .i64 (p2), .int .i64 (v2), .int .i64 (t2)] 26)) W.heap.size #[.int .i64 (k1), .int .i64 (c1), .int .i64 (s1), .string (bs n1), .int .u64 (b1 : Int), .int .i64 (z1), .int .u32 (u1 : Int), .slice ao1 d1.length cap1, .int .i64 (p1), .int .i64 (v1), .int .i64 (t1)] 26 := (Blk.new _ _ _).alloc _
  have hB0 : Blk ((W.alloc (.cells #[.int .i64 (k1), .int .i64 (c1), .int .i64 (s1), .string (bs n1), .int .u64 (b1 : Int), .int .i64 (z1), .int .u32 (u1 : Int), .slice ao1 d1.length cap1, .int .i64 (p1), .int .i64 (v1), .int .i64 (t1)] 26)).alloc (.cells #[.int .i64 (k2), .int .i64 (c2), .int .i64 (s2), .string (bs n2), .int .u64 (b2 : Int), .int .i64 (z2), .int .u32 (u2 : Int), .slice ao2 d2.length cap2, .int .i64 (p2), .int .i64 (v2), .int .i64 (t2)] 26)) (W.heap.size + 1) #[.int .i64 (k2), .int .i64 (c2), .int .i64 (s2), .string (bs n2), .int .u64 (b2 : Int), .int .i64 (z2), .int .u32 (u2 : Int), .slice ao2 d2.length cap2, .int .i64 (p2), .int .i64 (v2), .int .i64 (t2)] 26 := Blk.new' (by simp)
  have hW0 : Below W.heap.size W ((W.alloc (.cells #[.int .i64 (k1), .int .i64 (c1), .int .i64 (s1), .string (bs n1), .int .u64 (b1 : Int), .int .i64 (z1), .int .u32 (u1 : Int), .slice ao1 d1.length cap1, .int .i64 (p1), .int .i64 (v1), .int .i64 (t1)] 26)).alloc (.cells #[.int .i64 (k2), .int .i64 (c2), .int .i64 (s2), .string (bs n2), .int .u64 (b2 : Int), .int .i64 (z2), .int .u32 (u2 : Int), .slice ao2 d2.length cap2, .int .i64 (p2), .int .i64 (v2), .int .i64 (t2)] 26)) := (by repeat' (first | exact Below.refl _ _ | assumption | refine Below.setCell ?_ (by first | omega | (simp; done) | (simp; omega)) _ | refine Below.alloc ?_ (by first | omega | (simp; done) | (simp; omega)) _ | refine below_drew ?_ _ | apply Below.drew))
  have hz0 : ((W.alloc (.cells #[.int .i64 (k1), .int .i64 (c1), .int .i64 (s1), .string (bs n1), .int .u64 (b1 : Int), .int .i64 (z1), .int .u32 (u1 : Int), .slice ao1 d1.length cap1, .int .i64 (p1), .int .i64 (v1), .int .i64 (t1)] 26)).alloc (.cells #[.int .i64 (k2), .int .i64 (c2), .int .i64 (s2), .string (bs n2), .int .u64 (b2 : Int), .int .i64 (z2), .int .u32 (u2 : Int), .slice ao2 d2.length cap2, .int .i64 (p2), .int .i64 (v2), .int .i64 (t2)] 26)).heap.size = W.heap.size + 2 := by simp
  obtain ⟨L1, he1⟩ : ∃ e, e = Cmd.diskTo d1 6 := ⟨_, rfl⟩
  obtain ⟨L2, he2⟩ : ∃ e, e = Cmd.diskTo d2 6 := ⟨_, rfl⟩
  have hD1 : Hid (∀ w, Below W.heap.size W w → Calls Try.prog 9 #[.slice ao1 d1.length cap1] w (fun e w' => ∃ v, e = .returned v ∧ w'.ownsRow w.heap.size 3 1 v L1.length (i64v L1) ∧ Below w.heap.size w w')) := Lib.hid (fun w h => by rw [he1]; exact cmd_Disk d1 ao1 cap1 w (hsl1.below h))
  have hD2 : Hid (∀ w, Below W.heap.size W w → Calls Try.prog 9 #[.slice ao2 d2.length cap2] w (fun e w' => ∃ v, e = .returned v ∧ w'.ownsRow w.heap.size 3 1 v L2.length (i64v L2) ∧ Below w.heap.size w w')) := Lib.hid (fun w h => by rw [he2]; exact cmd_Disk d2 ao2 cap2 w (hsl2.below h))
  have hl1 : L1.length ≤ 6 := by rw [he1]; exact Cmd.diskTo_len d1 6
  have hl2 : L2.length ≤ 6 := by rw [he2]; exact Cmd.diskTo_len d2 6
  have hm1 : ∀ x ∈ L1, -1 < x ∧ x < 6 := by rw [he1]; exact Cmd.rise_mem _ _ (Cmd.rise_diskTo d1 6 (Nat.le_refl _))
  have hm2 : ∀ x ∈ L2, -1 < x ∧ x < 6 := by rw [he2]; exact Cmd.rise_mem _ _ (Cmd.rise_diskTo d2 6 (Nat.le_refl _))
  clear he1 he2 hsl1 hsl2
  (go_enter Try.func6, Try.ntmps6)
  go_wp2_with fail
  generalize ((W.alloc (.cells #[.int .i64 (k1), .int .i64 (c1), .int .i64 (s1), .string (bs n1), .int .u64 (b1 : Int), .int .i64 (z1), .int .u32 (u1 : Int), .slice ao1 d1.length cap1, .int .i64 (p1), .int .i64 (v1), .int .i64 (t1)] 26)).alloc (.cells #[.int .i64 (k2), .int .i64 (c2), .int .i64 (s2), .string (bs n2), .int .u64 (b2 : Int), .int .i64 (z2), .int .u32 (u2 : Int), .slice ao2 d2.length cap2, .int .i64 (p2), .int .i64 (v2), .int .i64 (t2)] 26)) = w0 at *
  refine Inv.region_inv (n := 10) (by kernel_rfl) [some 5, some 6, some 7, some 8, some 9, some 10, some 11, none, some 12, none] rfl (by kernel_rfl) (by kernel_rfl) rfl (by rfl)
    (fun d v w => match d with
      | 0 => v = .pointer (some ⟨W.heap.size, 7, none⟩)
      | 1 => v = .slice ao1 d1.length cap1
      | 2 => w.ownsRow (W.heap.size + 2) 3 1 v L1.length (i64v L1)
      | 3 => v = .pointer (some ⟨(W.heap.size + 1), 7, none⟩)
      | 4 => v = .slice ao2 d2.length cap2
      | 5 => w.ownsRow (W.heap.size + 2) 3 1 v L2.length (i64v L2)
      | 6 => v = .pointer (some ⟨W.heap.size, 7, none⟩)
      | 8 => v = .pointer (some ⟨(W.heap.size + 1), 7, none⟩)
      | _ => True) (KeepTwo W.heap.size (W.heap.size + 1))
    (fun listed w => Below W.heap.size W w ∧ W.heap.size + 2 ≤ w.heap.size ∧ (listed.getD 7 false = false → Blk w W.heap.size #[.int .i64 (k1), .int .i64 (c1), .int .i64 (s1), .string (bs n1), .int .u64 (b1 : Int), .int .i64 (z1), .int .u32 (u1 : Int), .slice ao1 d1.length cap1, .int .i64 (p1), .int .i64 (v1), .int .i64 (t1)] 26) ∧ (listed.getD 7 false = true → ∃ eo1 ecap1, Blk w W.heap.size #[.int .i64 (k1), .int .i64 (c1), .int .i64 (s1), .string (bs n1), .int .u64 (b1 : Int), .int .i64 (z1), .int .u32 (u1 : Int), .slice eo1 L1.length ecap1, .int .i64 (p1), .int .i64 (v1), .int .i64 (t1)] 26 ∧ w.ownsRow (W.heap.size + 2) 3 1 (.slice eo1 L1.length ecap1) L1.length (i64v L1)) ∧ (listed.getD 9 false = false → Blk w (W.heap.size + 1) #[.int .i64 (k2), .int .i64 (c2), .int .i64 (s2), .string (bs n2), .int .u64 (b2 : Int), .int .i64 (z2), .int .u32 (u2 : Int), .slice ao2 d2.length cap2, .int .i64 (p2), .int .i64 (v2), .int .i64 (t2)] 26) ∧ (listed.getD 9 false = true → ∃ eo2 ecap2, Blk w (W.heap.size + 1) #[.int .i64 (k2), .int .i64 (c2), .int .i64 (s2), .string (bs n2), .int .u64 (b2 : Int), .int .i64 (z2), .int .u32 (u2 : Int), .slice eo2 L2.length ecap2, .int .i64 (p2), .int .i64 (v2), .int .i64 (t2)] 26 ∧ w.ownsRow (W.heap.size + 2) 3 1 (.slice eo2 L2.length ecap2) L2.length (i64v L2))) ?_ ?_ ?_ ?_
  · intro d v w w' k h
    match d, h with
    | 0, h => exact h
    | 1, h => exact h
    | 2, h => exact k.own h (by omega) (by omega)
    | 3, h => exact h
    | 4, h => exact h
    | 5, h => exact k.own h (by omega) (by omega)
    | 6, h => exact h
    | 8, h => exact h
    | 7, h => exact trivial
    | 9, h => exact trivial
    | d + 10, h => exact trivial
  · refine ⟨below_drew hW0 1, Nat.le_of_eq hz0.symm, fun _ => hA0, fun h => ?_, fun _ => hB0, fun h => ?_⟩ <;> (rw [Inv.getD_rep] at h; cases h)
  · intro i o listed a vs w ho hls hl hdep hcl hout hev hT hG
    clear hA0 hB0 hW0 hz0
    obtain ⟨hBl, hsz, hA, hA', hB, hB'⟩ := hG
    have hi : i < 10 := (Array.getElem?_eq_some_iff.1 ho).1
    have i10 : i = 0 ∨ i = 1 ∨ i = 2 ∨ i = 3 ∨ i = 4 ∨ i = 5 ∨ i = 6 ∨ i = 7 ∨ i = 8 ∨ i = 9 := by omega
    rcases i10 with rfl | rfl | rfl | rfl | rfl | rfl | rfl | rfl | rfl | rfl
    · simp only [List.getElem?_toArray, List.getElem?_cons_zero, List.getElem?_cons_succ, Option.some.injEq] at ho
      subst ho
      refine ⟨rfl, fun K hK => ?_⟩
      have q := (hout 2 (by decide)).trans (rfl : _ = (.pointer (some ⟨W.heap.size, 0, none⟩) : Value))
      simp only [Act.eval, Array.getD_eq_getD_getElem?] at q
      unfold Oper.wp
      simp [execOp, q, go_sem, Oper.upon]
      exact hK _ _ ⟨Nat.le_refl _, fun _ _ _ _ => rfl⟩ ⟨hBl, hsz, by rw [getD_set_ne (i := 0) (j := 7) false (by decide)]; exact hA, by rw [getD_set_ne (i := 0) (j := 7) false (by decide)]; exact hA', by rw [getD_set_ne (i := 0) (j := 9) false (by decide)]; exact hB, by rw [getD_set_ne (i := 0) (j := 9) false (by decide)]; exact hB'⟩ rfl
    · simp only [List.getElem?_toArray, List.getElem?_cons_zero, List.getElem?_cons_succ, Option.some.injEq] at ho
      subst ho
      refine ⟨rfl, fun K hK => ?_⟩
      have dp0 := hdep ⟨0, .data⟩ (by simp) rfl
      have ep0 := hev 0 5 rfl dp0
      rw [hT 0 dp0] at ep0
      have nst : listed.getD 7 false = false := by
        cases h : listed.getD 7 false
        · rfl
        · have h2 := hcl 7 _ rfl h ⟨2, .data⟩ (by simp) rfl
          exact absurd (hcl 2 _ rfl h2 ⟨1, .data⟩ (by simp) rfl) (by rw [hl]; decide)
      have hc := (hA nst).cell 7
      simp only [List.getElem?_toArray, List.getElem?_cons_zero, List.getElem?_cons_succ] at hc
      simp only [Act.eval, Array.getD_eq_getD_getElem?] at ep0
      unfold Oper.wp
      simp [execOp, ep0, hc, go_sem, Oper.upon]
      exact hK _ _ ⟨Nat.le_refl _, fun _ _ _ _ => rfl⟩ ⟨hBl, hsz, by rw [getD_set_ne (i := 1) (j := 7) false (by decide)]; exact hA, by rw [getD_set_ne (i := 1) (j := 7) false (by decide)]; exact hA', by rw [getD_set_ne (i := 1) (j := 9) false (by decide)]; exact hB, by rw [getD_set_ne (i := 1) (j := 9) false (by decide)]; exact hB'⟩ rfl
    · simp only [List.getElem?_toArray, List.getElem?_cons_zero, List.getElem?_cons_succ, Option.some.injEq] at ho
      subst ho
      refine ⟨rfl, fun K hK => ?_⟩
      have dp1 := hdep ⟨1, .data⟩ (by simp) rfl
      have ep1 := hev 1 6 rfl dp1
      rw [hT 1 dp1] at ep1
      simp only [Act.eval, Array.getD_eq_getD_getElem?] at ep1
      unfold Oper.wp
      simp [execOp, ep1, go_sem, Oper.upon]
      refine (hD1.out w hBl).mono ?_
      rintro e w' ⟨v, rfl, hown, hBw⟩
      have hown2 : w'.ownsRow (W.heap.size + 2) 3 1 v L1.length (i64v L1) := own_lower hown hsz
      refine hK _ _ (KeepTwo.below hBw) ⟨hBl.trans (hBw.mono hBl.size), Nat.le_trans hsz hBw.size, ?_, ?_, ?_, ?_⟩ hown2
      · rw [getD_set_ne (i := 2) (j := 7) false (by decide)]; exact fun h => (hA h).keep (only_of_below hBw (fun _ => False)) (fun e => e)
      · rw [getD_set_ne (i := 2) (j := 7) false (by decide)]; exact fun h => by obtain ⟨x, y, z, o⟩ := hA' h; exact ⟨x, y, z.keep (only_of_below hBw (fun _ => False)) (fun e => e), own_keep o (only_of_below hBw (fun _ => False)) (fun _ _ e => e)⟩
      · rw [getD_set_ne (i := 2) (j := 9) false (by decide)]; exact fun h => (hB h).keep (only_of_below hBw (fun _ => False)) (fun e => e)
      · rw [getD_set_ne (i := 2) (j := 9) false (by decide)]; exact fun h => by obtain ⟨x, y, z, o⟩ := hB' h; exact ⟨x, y, z.keep (only_of_below hBw (fun _ => False)) (fun e => e), own_keep o (only_of_below hBw (fun _ => False)) (fun _ _ e => e)⟩
    · simp only [List.getElem?_toArray, List.getElem?_cons_zero, List.getElem?_cons_succ, Option.some.injEq] at ho
      subst ho
      refine ⟨rfl, fun K hK => ?_⟩
      have q := (hout 3 (by decide)).trans (rfl : _ = (.pointer (some ⟨(W.heap.size + 1), 0, none⟩) : Value))
      simp only [Act.eval, Array.getD_eq_getD_getElem?] at q
      unfold Oper.wp
      simp [execOp, q, go_sem, Oper.upon]
      exact hK _ _ ⟨Nat.le_refl _, fun _ _ _ _ => rfl⟩ ⟨hBl, hsz, by rw [getD_set_ne (i := 3) (j := 7) false (by decide)]; exact hA, by rw [getD_set_ne (i := 3) (j := 7) false (by decide)]; exact hA', by rw [getD_set_ne (i := 3) (j := 9) false (by decide)]; exact hB, by rw [getD_set_ne (i := 3) (j := 9) false (by decide)]; exact hB'⟩ rfl
    · simp only [List.getElem?_toArray, List.getElem?_cons_zero, List.getElem?_cons_succ, Option.some.injEq] at ho
      subst ho
      refine ⟨rfl, fun K hK => ?_⟩
      have dp3 := hdep ⟨3, .data⟩ (by simp) rfl
      have ep3 := hev 3 8 rfl dp3
      rw [hT 3 dp3] at ep3
      have nst : listed.getD 9 false = false := by
        cases h : listed.getD 9 false
        · rfl
        · have h2 := hcl 9 _ rfl h ⟨5, .data⟩ (by simp) rfl
          exact absurd (hcl 5 _ rfl h2 ⟨4, .data⟩ (by simp) rfl) (by rw [hl]; decide)
      have hc := (hB nst).cell 7
      simp only [List.getElem?_toArray, List.getElem?_cons_zero, List.getElem?_cons_succ] at hc
      simp only [Act.eval, Array.getD_eq_getD_getElem?] at ep3
      unfold Oper.wp
      simp [execOp, ep3, hc, go_sem, Oper.upon]
      exact hK _ _ ⟨Nat.le_refl _, fun _ _ _ _ => rfl⟩ ⟨hBl, hsz, by rw [getD_set_ne (i := 4) (j := 7) false (by decide)]; exact hA, by rw [getD_set_ne (i := 4) (j := 7) false (by decide)]; exact hA', by rw [getD_set_ne (i := 4) (j := 9) false (by decide)]; exact hB, by rw [getD_set_ne (i := 4) (j := 9) false (by decide)]; exact hB'⟩ rfl
    · simp only [List.getElem?_toArray, List.getElem?_cons_zero, List.getElem?_cons_succ, Option.some.injEq] at ho
      subst ho
      refine ⟨rfl, fun K hK => ?_⟩
      have dp4 := hdep ⟨4, .data⟩ (by simp) rfl
      have ep4 := hev 4 9 rfl dp4
      rw [hT 4 dp4] at ep4
      simp only [Act.eval, Array.getD_eq_getD_getElem?] at ep4
      unfold Oper.wp
      simp [execOp, ep4, go_sem, Oper.upon]
      refine (hD2.out w hBl).mono ?_
      rintro e w' ⟨v, rfl, hown, hBw⟩
      have hown2 : w'.ownsRow (W.heap.size + 2) 3 1 v L2.length (i64v L2) := own_lower hown hsz
      refine hK _ _ (KeepTwo.below hBw) ⟨hBl.trans (hBw.mono hBl.size), Nat.le_trans hsz hBw.size, ?_, ?_, ?_, ?_⟩ hown2
      · rw [getD_set_ne (i := 5) (j := 7) false (by decide)]; exact fun h => (hA h).keep (only_of_below hBw (fun _ => False)) (fun e => e)
      · rw [getD_set_ne (i := 5) (j := 7) false (by decide)]; exact fun h => by obtain ⟨x, y, z, o⟩ := hA' h; exact ⟨x, y, z.keep (only_of_below hBw (fun _ => False)) (fun e => e), own_keep o (only_of_below hBw (fun _ => False)) (fun _ _ e => e)⟩
      · rw [getD_set_ne (i := 5) (j := 9) false (by decide)]; exact fun h => (hB h).keep (only_of_below hBw (fun _ => False)) (fun e => e)
      · rw [getD_set_ne (i := 5) (j := 9) false (by decide)]; exact fun h => by obtain ⟨x, y, z, o⟩ := hB' h; exact ⟨x, y, z.keep (only_of_below hBw (fun _ => False)) (fun e => e), own_keep o (only_of_below hBw (fun _ => False)) (fun _ _ e => e)⟩
    · simp only [List.getElem?_toArray, List.getElem?_cons_zero, List.getElem?_cons_succ, Option.some.injEq] at ho
      subst ho
      refine ⟨rfl, fun K hK => ?_⟩
      have q := (hout 2 (by decide)).trans (rfl : _ = (.pointer (some ⟨W.heap.size, 0, none⟩) : Value))
      simp only [Act.eval, Array.getD_eq_getD_getElem?] at q
      unfold Oper.wp
      simp [execOp, q, go_sem, Oper.upon]
      exact hK _ _ ⟨Nat.le_refl _, fun _ _ _ _ => rfl⟩ ⟨hBl, hsz, by rw [getD_set_ne (i := 6) (j := 7) false (by decide)]; exact hA, by rw [getD_set_ne (i := 6) (j := 7) false (by decide)]; exact hA', by rw [getD_set_ne (i := 6) (j := 9) false (by decide)]; exact hB, by rw [getD_set_ne (i := 6) (j := 9) false (by decide)]; exact hB'⟩ rfl
    · simp only [List.getElem?_toArray, List.getElem?_cons_zero, List.getElem?_cons_succ, Option.some.injEq] at ho
      subst ho
      refine ⟨rfl, fun K hK => ?_⟩
      have dp6 := hdep ⟨6, .data⟩ (by simp) rfl
      have ep6 := hev 6 11 rfl dp6
      rw [hT 6 dp6] at ep6
      have dp2 := hdep ⟨2, .data⟩ (by simp) rfl
      have ep2 := hev 2 7 rfl dp2
      have t := hT 2 dp2
      simp only at t
      generalize vs 2 = vv at *
      obtain ⟨eo, ecap, rfl, _, _, _, _⟩ := Sl.of_own t
      have hc := (hA hl).cell 7
      have hf := (hA hl).frozen 7
      simp only [List.getElem?_toArray, List.getElem?_cons_zero, List.getElem?_cons_succ] at hc
      simp only [Act.eval, Array.getD_eq_getD_getElem?] at ep6 ep2
      unfold Oper.wp
      simp [execOp, ep6, ep2, hc, hf, go_sem, Oper.upon]
      have hO : Only (· = W.heap.size) w (w.setCell ⟨W.heap.size, 7, none⟩ (.slice eo L1.length ecap)) := (Only.refl _ w).setCell _ _ (fun _ => rfl)
      have hst : Blk (w.setCell ⟨W.heap.size, 7, none⟩ (.slice eo L1.length ecap)) W.heap.size #[.int .i64 (k1), .int .i64 (c1), .int .i64 (s1), .string (bs n1), .int .u64 (b1 : Int), .int .i64 (z1), .int .u32 (u1 : Int), .slice eo L1.length ecap, .int .i64 (p1), .int .i64 (v1), .int .i64 (t1)] 26 := by simpa using (hA hl).set 7 (.slice eo L1.length ecap)
      have hot := own_keep t hO (fun g hg e => by have := own_ge t g hg; omega)
      refine hK undef _ ⟨by simp [World.setCell], fun k hk h1 h2 => hO.block k hk (by omega)⟩ ⟨hBl.setCell (by simp only; omega) _, by simpa [World.setCell] using hsz, ?_, ?_, ?_, ?_⟩ trivial
      · rw [Inv.getD_set_self (by omega)]; exact fun h => by cases h
      · exact fun _ => ⟨eo, ecap, hst, hot⟩
      · rw [getD_set_ne (i := 7) (j := 9) false (by decide)]; exact fun h => (hB h).keep hO (by omega)
      · rw [getD_set_ne (i := 7) (j := 9) false (by decide)]; exact fun h => by obtain ⟨x, y, z, o⟩ := hB' h; exact ⟨x, y, z.keep hO (by omega), own_keep o hO (fun g hg e => by have := own_ge o g hg; omega)⟩
    · simp only [List.getElem?_toArray, List.getElem?_cons_zero, List.getElem?_cons_succ, Option.some.injEq] at ho
      subst ho
      refine ⟨rfl, fun K hK => ?_⟩
      have q := (hout 3 (by decide)).trans (rfl : _ = (.pointer (some ⟨(W.heap.size + 1), 0, none⟩) : Value))
      simp only [Act.eval, Array.getD_eq_getD_getElem?] at q
      unfold Oper.wp
      simp [execOp, q, go_sem, Oper.upon]
      exact hK _ _ ⟨Nat.le_refl _, fun _ _ _ _ => rfl⟩ ⟨hBl, hsz, by rw [getD_set_ne (i := 8) (j := 7) false (by decide)]; exact hA, by rw [getD_set_ne (i := 8) (j := 7) false (by decide)]; exact hA', by rw [getD_set_ne (i := 8) (j := 9) false (by decide)]; exact hB, by rw [getD_set_ne (i := 8) (j := 9) false (by decide)]; exact hB'⟩ rfl
    · simp only [List.getElem?_toArray, List.getElem?_cons_zero, List.getElem?_cons_succ, Option.some.injEq] at ho
      subst ho
      refine ⟨rfl, fun K hK => ?_⟩
      have dp8 := hdep ⟨8, .data⟩ (by simp) rfl
      have ep8 := hev 8 12 rfl dp8
      rw [hT 8 dp8] at ep8
      have dp5 := hdep ⟨5, .data⟩ (by simp) rfl
      have ep5 := hev 5 10 rfl dp5
      have t := hT 5 dp5
      simp only at t
      generalize vs 5 = vv at *
      obtain ⟨eo, ecap, rfl, _, _, _, _⟩ := Sl.of_own t
      have hc := (hB hl).cell 7
      have hf := (hB hl).frozen 7
      simp only [List.getElem?_toArray, List.getElem?_cons_zero, List.getElem?_cons_succ] at hc
      simp only [Act.eval, Array.getD_eq_getD_getElem?] at ep8 ep5
      unfold Oper.wp
      simp [execOp, ep8, ep5, hc, hf, go_sem, Oper.upon]
      have hO : Only (· = (W.heap.size + 1)) w (w.setCell ⟨(W.heap.size + 1), 7, none⟩ (.slice eo L2.length ecap)) := (Only.refl _ w).setCell _ _ (fun _ => rfl)
      have hst : Blk (w.setCell ⟨(W.heap.size + 1), 7, none⟩ (.slice eo L2.length ecap)) (W.heap.size + 1) #[.int .i64 (k2), .int .i64 (c2), .int .i64 (s2), .string (bs n2), .int .u64 (b2 : Int), .int .i64 (z2), .int .u32 (u2 : Int), .slice eo L2.length ecap, .int .i64 (p2), .int .i64 (v2), .int .i64 (t2)] 26 := by simpa using (hB hl).set 7 (.slice eo L2.length ecap)
      have hot := own_keep t hO (fun g hg e => by have := own_ge t g hg; omega)
      refine hK undef _ ⟨by simp [World.setCell], fun k hk h1 h2 => hO.block k hk (by omega)⟩ ⟨hBl.setCell (by simp only; omega) _, by simpa [World.setCell] using hsz, ?_, ?_, ?_, ?_⟩ trivial
      · rw [getD_set_ne (i := 9) (j := 7) false (by decide)]; exact fun h => (hA h).keep hO (by omega)
      · rw [getD_set_ne (i := 9) (j := 7) false (by decide)]; exact fun h => by obtain ⟨x, y, z, o⟩ := hA' h; exact ⟨x, y, z.keep hO (by omega), own_keep o hO (fun g hg e => by have := own_ge o g hg; omega)⟩
      · rw [Inv.getD_set_self (by omega)]; exact fun h => by cases h
      · exact fun _ => ⟨eo, ecap, hst, hot⟩
  · intro listed vs w hall hT hG
    clear hA0 hB0 hW0 hz0
    obtain ⟨hBl, hsz, _, hA', _, hB'⟩ := hG
    obtain ⟨eo1, ecap1, hA, hoA⟩ := hA' (hall 7 (by omega))
    obtain ⟨eo2, ecap2, hB, hoB⟩ := hB' (hall 9 (by omega))
    clear hA' hB'
    generalize hfr : Inv.frA _ _ _ _ = fr
    simp [Inv.frA, Act.put] at hfr
    generalize vs 0 = y0 at *
    generalize vs 1 = y1 at *
    generalize vs 2 = y2 at *
    generalize vs 3 = y3 at *
    generalize vs 4 = y4 at *
    generalize vs 5 = y5 at *
    generalize vs 6 = y6 at *
    generalize vs 8 = y8 at *
    clear hT hall
    subst hfr

    have hsA := Sl.of_own hoA
    have hsB := Sl.of_own hoB
    clear hoA hoB hD1 hD2
    have hWf1 : Cmd.Wf ⟨k1, c1, s1, n1, b1, z1, u1, L1, p1, v1, t1⟩ := ⟨f1, f2, f3, f4, f5, f6, fun x hx => by have := hm1 x hx; omega, f8, f9, f10⟩
    have hWf2 : Cmd.Wf ⟨k2, c2, s2, n2, b2, z2, u2, L2, p2, v2, t2⟩ := ⟨g1, g2, g3, g4, g5, g6, fun x hx => by have := hm2 x hx; omega, g8, g9, g10⟩
    have HG1 := Lib.hid (fun wx hx => cmd_Good ⟨k1, c1, s1, n1, b1, z1, u1, L1, p1, v1, t1⟩ hWf1 (by first | omega | (simp only; omega)) (by first | omega | (simp only; omega)) eo1 ecap1 wx hx)
    have HG2 := Lib.hid (fun wx hx => cmd_Good ⟨k2, c2, s2, n2, b2, z2, u2, L2, p2, v2, t2⟩ hWf2 (by first | omega | (simp only; omega)) (by first | omega | (simp only; omega)) eo2 ecap2 wx hx)
    obtain ⟨gd1, hgd1⟩ : ∃ g, g = Cmd.good ⟨k1, c1, s1, n1, b1, z1, u1, L1, p1, v1, t1⟩ := ⟨_, rfl⟩
    obtain ⟨gd2, hgd2⟩ : ∃ g, g = Cmd.good ⟨k2, c2, s2, n2, b2, z2, u2, L2, p2, v2, t2⟩ := ⟨_, rfl⟩
    rw [← hgd1] at HG1
    rw [← hgd2] at HG2
    have HS1 : Hid (gd1 = true → Cmd.Sound ⟨k1, c1, s1, n1, b1, z1, u1, L1, p1, v1, t1⟩) := Lib.hid (fun h => ⟨by rw [← hgd1]; exact h, f4, f6⟩)
    have HS2 : Hid (gd2 = true → Cmd.Sound ⟨k2, c2, s2, n2, b2, z2, u2, L2, p2, v2, t2⟩) := Lib.hid (fun h => ⟨by rw [← hgd2]; exact h, g4, g6⟩)
    unfold Cmd.cells at HG1 HG2
    simp only at HG1 HG2
    clear hgd1 hgd2 hWf1 hWf2
    go_wp2_with fail
    refine (awake_any _).mono ?_; rintro e w3 ⟨rfl, hBx⟩
    have hA3 := hA.keep (only_of_below hBx (fun _ => False)) (fun e => e)
    have hB3 := hB.keep (only_of_below hBx (fun _ => False)) (fun e => e)
    have hsA3 := hsA.below hBx
    have hsB3 := hsB.below hBx
    have hBl3 := hBl.trans (hBx.mono hBl.size)
    clear hA hB hsA hsB hBl hBx
    have hc0x := hA3.cell 0
    have hc1x := hA3.cell 1
    have hc2x := hA3.cell 2
    have hc3x := hA3.cell 3
    have hc4x := hA3.cell 4
    have hc5x := hA3.cell 5
    have hc6x := hA3.cell 6
    have hc7x := hA3.cell 7
    have hc8x := hA3.cell 8
    have hc9x := hA3.cell 9
    have hc10x := hA3.cell 10
    simp only [List.getElem?_toArray, List.getElem?_cons_zero, List.getElem?_cons_succ] at hc0x hc1x hc2x hc3x hc4x hc5x hc6x hc7x hc8x hc9x hc10x
    have HGx := Lib.hid (HG1.out _ hsA3)
    go_wp2_with fail
    refine HGx.out.mono ?_; rintro e w4 ⟨rfl, hBx⟩
    clear hc0x hc1x hc2x hc3x hc4x hc5x hc6x hc7x hc8x hc9x hc10x
    have hA4 := hA3.keep (only_of_below hBx (fun _ => False)) (fun e => e)
    have hB4 := hB3.keep (only_of_below hBx (fun _ => False)) (fun e => e)
    have hsA4 := hsA3.below hBx
    have hsB4 := hsB3.below hBx
    have hBl4 := hBl3.trans (hBx.mono hBl3.size)
    clear hA3 hB3 hsA3 hsB3 hBl3 hBx HGx HG1
    cases gd1 with
    | false =>
      go_wp2_with fail
      refine (awake_any _).mono ?_; rintro e w5 ⟨rfl, hBx⟩
      go_wp2_with fail
      go_ret
      exact ⟨rfl, hBl4.trans (hBx.mono hBl4.size)⟩
    | true =>
      have hc0x := hB4.cell 0
      have hc1x := hB4.cell 1
      have hc2x := hB4.cell 2
      have hc3x := hB4.cell 3
      have hc4x := hB4.cell 4
      have hc5x := hB4.cell 5
      have hc6x := hB4.cell 6
      have hc7x := hB4.cell 7
      have hc8x := hB4.cell 8
      have hc9x := hB4.cell 9
      have hc10x := hB4.cell 10
      simp only [List.getElem?_toArray, List.getElem?_cons_zero, List.getElem?_cons_succ] at hc0x hc1x hc2x hc3x hc4x hc5x hc6x hc7x hc8x hc9x hc10x
      have HGx := Lib.hid (HG2.out _ hsB4)
      go_wp2_with fail
      refine HGx.out.mono ?_; rintro e w5 ⟨rfl, hBx⟩
      clear hc0x hc1x hc2x hc3x hc4x hc5x hc6x hc7x hc8x hc9x hc10x
      have hA5 := hA4.keep (only_of_below hBx (fun _ => False)) (fun e => e)
      have hB5 := hB4.keep (only_of_below hBx (fun _ => False)) (fun e => e)
      have hsA5 := hsA4.below hBx
      have hsB5 := hsB4.below hBx
      have hBl5 := hBl4.trans (hBx.mono hBl4.size)
      clear hA4 hB4 hsA4 hsB4 hBl4 hBx HGx HG2
      cases gd2 with
      | false =>
        go_wp2_with fail
        refine (awake_any _).mono ?_; rintro e w6 ⟨rfl, hBx⟩
        go_wp2_with fail
        go_ret
        exact ⟨rfl, hBl5.trans (hBx.mono hBl5.size)⟩
      | true =>
        have hS1 := HS1.out (by first | trivial | rfl)
        have hS2 := HS2.out (by first | trivial | rfl)
        have hW1 : ∀ wx, Below w5.heap.size w5 wx → Calls Try.prog 13 #[.agg #[.int .i64 (k1), .int .i64 (c1), .int .i64 (s1), .string (bs n1), .int .u64 (b1 : Int), .int .i64 (z1), .int .u32 (u1 : Int), .slice eo1 L1.length ecap1, .int .i64 (p1), .int .i64 (v1), .int .i64 (t1)]] wx (Fresh (.string (bs (Cmd.bytes ⟨k1, c1, s1, n1, b1, z1, u1, L1, p1, v1, t1⟩))) wx) := fun wx hx => cmd_Write ⟨k1, c1, s1, n1, b1, z1, u1, L1, p1, v1, t1⟩ hS1.wf (by have := hS1.name; omega) (by have := hS1.disks; omega) eo1 ecap1 wx (hsA5.below hx)
        have hW2 : ∀ wx, Below w5.heap.size w5 wx → Calls Try.prog 13 #[.agg #[.int .i64 (k2), .int .i64 (c2), .int .i64 (s2), .string (bs n2), .int .u64 (b2 : Int), .int .i64 (z2), .int .u32 (u2 : Int), .slice eo2 L2.length ecap2, .int .i64 (p2), .int .i64 (v2), .int .i64 (t2)]] wx (Fresh (.string (bs (Cmd.bytes ⟨k2, c2, s2, n2, b2, z2, u2, L2, p2, v2, t2⟩))) wx) := fun wx hx => cmd_Write ⟨k2, c2, s2, n2, b2, z2, u2, L2, p2, v2, t2⟩ hS2.wf (by have := hS2.name; omega) (by have := hS2.disks; omega) eo2 ecap2 wx (hsB5.below hx)
        have hM : ∀ wx, Below w5.heap.size w5 wx → Calls Try.prog 14 #[.agg #[.int .i64 (k1), .int .i64 (c1), .int .i64 (s1), .string (bs n1), .int .u64 (b1 : Int), .int .i64 (z1), .int .u32 (u1 : Int), .slice eo1 L1.length ecap1, .int .i64 (p1), .int .i64 (v1), .int .i64 (t1)], .agg #[.int .i64 (k2), .int .i64 (c2), .int .i64 (s2), .string (bs n2), .int .u64 (b2 : Int), .int .i64 (z2), .int .u32 (u2 : Int), .slice eo2 L2.length ecap2, .int .i64 (p2), .int .i64 (v2), .int .i64 (t2)]] wx (Fresh (.bool (Cmd.bytes ⟨k1, c1, s1, n1, b1, z1, u1, L1, p1, v1, t1⟩ == Cmd.bytes ⟨k2, c2, s2, n2, b2, z2, u2, L2, p2, v2, t2⟩)) wx) := fun wx hx => ref_Same _ ⟨k1, c1, s1, n1, b1, z1, u1, L1, p1, v1, t1⟩ ⟨k2, c2, s2, n2, b2, z2, u2, L2, p2, v2, t2⟩ (Cmd.bytes_inj hS1 hS2) eo1 eo2 ecap1 ecap2 wx (hsA5.below hx) (hsB5.below hx)
        generalize Cmd.bytes ⟨k1, c1, s1, n1, b1, z1, u1, L1, p1, v1, t1⟩ = Ba at *
        generalize Cmd.bytes ⟨k2, c2, s2, n2, b2, z2, u2, L2, p2, v2, t2⟩ = Bb at *
        have hlA := hA5.lt
        have hlB := hB5.lt
        go_wp2_with fail
        refine Inv.region_inv (n := 12) (by kernel_rfl) [some 26, some 27, some 28, some 29, some 30, some 31, some 32, some 33, some 34, some 35, some 36, some 4] rfl (by kernel_rfl) (by kernel_rfl) rfl (by rfl)
          (fun d v w => match d with
            | 0 => v = .agg #[.int .i64 (k1), .int .i64 (c1), .int .i64 (s1), .string (bs n1), .int .u64 (b1 : Int), .int .i64 (z1), .int .u32 (u1 : Int), .slice eo1 L1.length ecap1, .int .i64 (p1), .int .i64 (v1), .int .i64 (t1)]
            | 1 => v = .string (bs Ba)
            | 2 => v = .agg #[.int .i64 (k2), .int .i64 (c2), .int .i64 (s2), .string (bs n2), .int .u64 (b2 : Int), .int .i64 (z2), .int .u32 (u2 : Int), .slice eo2 L2.length ecap2, .int .i64 (p2), .int .i64 (v2), .int .i64 (t2)]
            | 3 => v = .string (bs Bb)
            | 4 => v = .bool (Ba == Bb)
            | 5 => v = .agg #[.int .i64 (k1), .int .i64 (c1), .int .i64 (s1), .string (bs n1), .int .u64 (b1 : Int), .int .i64 (z1), .int .u32 (u1 : Int), .slice eo1 L1.length ecap1, .int .i64 (p1), .int .i64 (v1), .int .i64 (t1)]
            | 6 => v = .agg #[.int .i64 (k1), .int .i64 (c1), .int .i64 (s1), .string (bs n1), .int .u64 (b1 : Int), .int .i64 (z1), .int .u32 (u1 : Int), .slice eo1 L1.length ecap1, .int .i64 (p1), .int .i64 (v1), .int .i64 (t1)]
            | 7 => v = .agg #[.int .i64 (k2), .int .i64 (c2), .int .i64 (s2), .string (bs n2), .int .u64 (b2 : Int), .int .i64 (z2), .int .u32 (u2 : Int), .slice eo2 L2.length ecap2, .int .i64 (p2), .int .i64 (v2), .int .i64 (t2)]
            | 8 => v = .agg #[.int .i64 (k2), .int .i64 (c2), .int .i64 (s2), .string (bs n2), .int .u64 (b2 : Int), .int .i64 (z2), .int .u32 (u2 : Int), .slice eo2 L2.length ecap2, .int .i64 (p2), .int .i64 (v2), .int .i64 (t2)]
            | 9 => v = .bool (Ba == Bb)
            | 10 => v = .bool true
            | 11 => v = .bool true
            | _ => True) (fun _ _ => True) (fun _ w => Below w5.heap.size w5 w) ?_ ?_ ?_ ?_
        · intro d v w w' _ h
          match d, h with
          | 0, h => exact h
          | 1, h => exact h
          | 2, h => exact h
          | 3, h => exact h
          | 4, h => exact h
          | 5, h => exact h
          | 6, h => exact h
          | 7, h => exact h
          | 8, h => exact h
          | 9, h => exact h
          | 10, h => exact h
          | 11, h => exact h
          | d + 12, h => exact trivial
        · exact below_drew (Below.refl _ _) 1
        · intro i o listed a vs w ho hls hl hdep hcl hout hev hT hG
          have hi : i < 12 := (Array.getElem?_eq_some_iff.1 ho).1
          have i12 : i = 0 ∨ i = 1 ∨ i = 2 ∨ i = 3 ∨ i = 4 ∨ i = 5 ∨ i = 6 ∨ i = 7 ∨ i = 8 ∨ i = 9 ∨ i = 10 ∨ i = 11 := by omega
          rcases i12 with rfl | rfl | rfl | rfl | rfl | rfl | rfl | rfl | rfl | rfl | rfl | rfl
          · simp only [List.getElem?_toArray, List.getElem?_cons_zero, List.getElem?_cons_succ, Option.some.injEq] at ho
            subst ho
            refine ⟨rfl, fun K hK => ?_⟩
            have q := (hout 2 (by decide)).trans (rfl : _ = (.pointer (some ⟨W.heap.size, 0, none⟩) : Value))
            have hb := hA5.keep (only_of_below hG (fun _ => False)) (fun e => e)
            have hc0x := hb.cell 0
            have hc1x := hb.cell 1
            have hc2x := hb.cell 2
            have hc3x := hb.cell 3
            have hc4x := hb.cell 4
            have hc5x := hb.cell 5
            have hc6x := hb.cell 6
            have hc7x := hb.cell 7
            have hc8x := hb.cell 8
            have hc9x := hb.cell 9
            have hc10x := hb.cell 10
            simp only [List.getElem?_toArray, List.getElem?_cons_zero, List.getElem?_cons_succ] at hc0x hc1x hc2x hc3x hc4x hc5x hc6x hc7x hc8x hc9x hc10x
            simp only [Act.eval, Array.getD_eq_getD_getElem?] at q
            unfold Oper.wp
            simp [execOp, q, hc0x, hc1x, hc2x, hc3x, hc4x, hc5x, hc6x, hc7x, hc8x, hc9x, hc10x, go_sem, Oper.upon]
            exact hK _ _ trivial hG rfl
          · simp only [List.getElem?_toArray, List.getElem?_cons_zero, List.getElem?_cons_succ, Option.some.injEq] at ho
            subst ho
            refine ⟨rfl, fun K hK => ?_⟩
            have dp0 := hdep ⟨0, .data⟩ (by simp) rfl
            have ep0 := hev 0 26 rfl dp0
            rw [hT 0 dp0] at ep0
            simp only [Act.eval, Array.getD_eq_getD_getElem?] at ep0
            unfold Oper.wp
            simp [execOp, ep0, go_sem, Oper.upon]
            refine (hW1 w hG).mono ?_
            rintro e w' ⟨rfl, hBw⟩
            exact hK _ _ trivial (hG.trans (hBw.mono hG.size)) rfl
          · simp only [List.getElem?_toArray, List.getElem?_cons_zero, List.getElem?_cons_succ, Option.some.injEq] at ho
            subst ho
            refine ⟨rfl, fun K hK => ?_⟩
            have q := (hout 3 (by decide)).trans (rfl : _ = (.pointer (some ⟨(W.heap.size + 1), 0, none⟩) : Value))
            have hb := hB5.keep (only_of_below hG (fun _ => False)) (fun e => e)
            have hc0x := hb.cell 0
            have hc1x := hb.cell 1
            have hc2x := hb.cell 2
            have hc3x := hb.cell 3
            have hc4x := hb.cell 4
            have hc5x := hb.cell 5
            have hc6x := hb.cell 6
            have hc7x := hb.cell 7
            have hc8x := hb.cell 8
            have hc9x := hb.cell 9
            have hc10x := hb.cell 10
            simp only [List.getElem?_toArray, List.getElem?_cons_zero, List.getElem?_cons_succ] at hc0x hc1x hc2x hc3x hc4x hc5x hc6x hc7x hc8x hc9x hc10x
            simp only [Act.eval, Array.getD_eq_getD_getElem?] at q
            unfold Oper.wp
            simp [execOp, q, hc0x, hc1x, hc2x, hc3x, hc4x, hc5x, hc6x, hc7x, hc8x, hc9x, hc10x, go_sem, Oper.upon]
            exact hK _ _ trivial hG rfl
          · simp only [List.getElem?_toArray, List.getElem?_cons_zero, List.getElem?_cons_succ, Option.some.injEq] at ho
            subst ho
            refine ⟨rfl, fun K hK => ?_⟩
            have dp2 := hdep ⟨2, .data⟩ (by simp) rfl
            have ep2 := hev 2 28 rfl dp2
            rw [hT 2 dp2] at ep2
            simp only [Act.eval, Array.getD_eq_getD_getElem?] at ep2
            unfold Oper.wp
            simp [execOp, ep2, go_sem, Oper.upon]
            refine (hW2 w hG).mono ?_
            rintro e w' ⟨rfl, hBw⟩
            exact hK _ _ trivial (hG.trans (hBw.mono hG.size)) rfl
          · simp only [List.getElem?_toArray, List.getElem?_cons_zero, List.getElem?_cons_succ, Option.some.injEq] at ho
            subst ho
            refine ⟨rfl, fun K hK => ?_⟩
            have dp1 := hdep ⟨1, .data⟩ (by simp) rfl
            have ep1 := hev 1 27 rfl dp1
            rw [hT 1 dp1] at ep1
            have dp3 := hdep ⟨3, .data⟩ (by simp) rfl
            have ep3 := hev 3 29 rfl dp3
            rw [hT 3 dp3] at ep3
            simp only [Act.eval, Array.getD_eq_getD_getElem?] at ep1 ep3
            unfold Oper.wp
            simp [execOp, ep1, ep3, go_sem, Oper.upon]
            exact hK _ _ trivial hG rfl
          · simp only [List.getElem?_toArray, List.getElem?_cons_zero, List.getElem?_cons_succ, Option.some.injEq] at ho
            subst ho
            refine ⟨rfl, fun K hK => ?_⟩
            have q := (hout 2 (by decide)).trans (rfl : _ = (.pointer (some ⟨W.heap.size, 0, none⟩) : Value))
            have hb := hA5.keep (only_of_below hG (fun _ => False)) (fun e => e)
            have hc0x := hb.cell 0
            have hc1x := hb.cell 1
            have hc2x := hb.cell 2
            have hc3x := hb.cell 3
            have hc4x := hb.cell 4
            have hc5x := hb.cell 5
            have hc6x := hb.cell 6
            have hc7x := hb.cell 7
            have hc8x := hb.cell 8
            have hc9x := hb.cell 9
            have hc10x := hb.cell 10
            simp only [List.getElem?_toArray, List.getElem?_cons_zero, List.getElem?_cons_succ] at hc0x hc1x hc2x hc3x hc4x hc5x hc6x hc7x hc8x hc9x hc10x
            simp only [Act.eval, Array.getD_eq_getD_getElem?] at q
            unfold Oper.wp
            simp [execOp, q, hc0x, hc1x, hc2x, hc3x, hc4x, hc5x, hc6x, hc7x, hc8x, hc9x, hc10x, go_sem, Oper.upon]
            exact hK _ _ trivial hG rfl
          · simp only [List.getElem?_toArray, List.getElem?_cons_zero, List.getElem?_cons_succ, Option.some.injEq] at ho
            subst ho
            refine ⟨rfl, fun K hK => ?_⟩
            have dp5 := hdep ⟨5, .data⟩ (by simp) rfl
            have ep5 := hev 5 31 rfl dp5
            rw [hT 5 dp5] at ep5
            simp only [Act.eval, Array.getD_eq_getD_getElem?] at ep5
            unfold Oper.wp
            simp [execOp, ep5, go_sem, Oper.upon]
            refine (cmd_Told' _ _ _ _ _ _ _ _ _ _ _ _ _ w).mono ?_
            rintro e w' ⟨rfl, hBw⟩
            exact hK _ _ trivial (hG.trans (hBw.mono hG.size)) rfl
          · simp only [List.getElem?_toArray, List.getElem?_cons_zero, List.getElem?_cons_succ, Option.some.injEq] at ho
            subst ho
            refine ⟨rfl, fun K hK => ?_⟩
            have q := (hout 3 (by decide)).trans (rfl : _ = (.pointer (some ⟨(W.heap.size + 1), 0, none⟩) : Value))
            have hb := hB5.keep (only_of_below hG (fun _ => False)) (fun e => e)
            have hc0x := hb.cell 0
            have hc1x := hb.cell 1
            have hc2x := hb.cell 2
            have hc3x := hb.cell 3
            have hc4x := hb.cell 4
            have hc5x := hb.cell 5
            have hc6x := hb.cell 6
            have hc7x := hb.cell 7
            have hc8x := hb.cell 8
            have hc9x := hb.cell 9
            have hc10x := hb.cell 10
            simp only [List.getElem?_toArray, List.getElem?_cons_zero, List.getElem?_cons_succ] at hc0x hc1x hc2x hc3x hc4x hc5x hc6x hc7x hc8x hc9x hc10x
            simp only [Act.eval, Array.getD_eq_getD_getElem?] at q
            unfold Oper.wp
            simp [execOp, q, hc0x, hc1x, hc2x, hc3x, hc4x, hc5x, hc6x, hc7x, hc8x, hc9x, hc10x, go_sem, Oper.upon]
            exact hK _ _ trivial hG rfl
          · simp only [List.getElem?_toArray, List.getElem?_cons_zero, List.getElem?_cons_succ, Option.some.injEq] at ho
            subst ho
            refine ⟨rfl, fun K hK => ?_⟩
            have dp7 := hdep ⟨7, .data⟩ (by simp) rfl
            have ep7 := hev 7 33 rfl dp7
            rw [hT 7 dp7] at ep7
            simp only [Act.eval, Array.getD_eq_getD_getElem?] at ep7
            unfold Oper.wp
            simp [execOp, ep7, go_sem, Oper.upon]
            refine (cmd_Told' _ _ _ _ _ _ _ _ _ _ _ _ _ w).mono ?_
            rintro e w' ⟨rfl, hBw⟩
            exact hK _ _ trivial (hG.trans (hBw.mono hG.size)) rfl
          · simp only [List.getElem?_toArray, List.getElem?_cons_zero, List.getElem?_cons_succ, Option.some.injEq] at ho
            subst ho
            refine ⟨rfl, fun K hK => ?_⟩
            have dp6 := hdep ⟨6, .data⟩ (by simp) rfl
            have ep6 := hev 6 32 rfl dp6
            rw [hT 6 dp6] at ep6
            have dp8 := hdep ⟨8, .data⟩ (by simp) rfl
            have ep8 := hev 8 34 rfl dp8
            rw [hT 8 dp8] at ep8
            simp only [Act.eval, Array.getD_eq_getD_getElem?] at ep6 ep8
            unfold Oper.wp
            simp [execOp, ep6, ep8, go_sem, Oper.upon]
            refine (hM w hG).mono ?_
            rintro e w' ⟨rfl, hBw⟩
            exact hK _ _ trivial (hG.trans (hBw.mono hG.size)) rfl
          · simp only [List.getElem?_toArray, List.getElem?_cons_zero, List.getElem?_cons_succ, Option.some.injEq] at ho
            subst ho
            refine ⟨rfl, fun K hK => ?_⟩
            have dp4 := hdep ⟨4, .data⟩ (by simp) rfl
            have ep4 := hev 4 30 rfl dp4
            rw [hT 4 dp4] at ep4
            have dp9 := hdep ⟨9, .data⟩ (by simp) rfl
            have ep9 := hev 9 35 rfl dp9
            rw [hT 9 dp9] at ep9
            simp only [Act.eval, Array.getD_eq_getD_getElem?] at ep4 ep9
            unfold Oper.wp
            simp [execOp, ep4, ep9, go_sem, Oper.upon]
            exact hK _ _ trivial hG rfl
          · simp only [List.getElem?_toArray, List.getElem?_cons_zero, List.getElem?_cons_succ, Option.some.injEq] at ho
            subst ho
            refine ⟨rfl, fun K hK => ?_⟩
            have dp10 := hdep ⟨10, .data⟩ (by simp) rfl
            have ep10 := hev 10 36 rfl dp10
            rw [hT 10 dp10] at ep10
            simp only [Act.eval, Array.getD_eq_getD_getElem?] at ep10
            unfold Oper.wp
            simp [execOp, ep10, go_sem, Oper.upon]
            exact hK _ _ trivial hG rfl
        · intro listed vs w hall hT hG
          have q0 := hT 0 (by omega)
          have q1 := hT 1 (by omega)
          have q2 := hT 2 (by omega)
          have q3 := hT 3 (by omega)
          have q4 := hT 4 (by omega)
          have q5 := hT 5 (by omega)
          have q6 := hT 6 (by omega)
          have q7 := hT 7 (by omega)
          have q8 := hT 8 (by omega)
          have q9 := hT 9 (by omega)
          have q10 := hT 10 (by omega)
          have q11 := hT 11 (by omega)
          simp only at q0 q1 q2 q3 q4 q5 q6 q7 q8 q9 q10 q11
          generalize hfr : Inv.frA _ _ _ _ = fr
          simp [Inv.frA, Act.put] at hfr
          simp only [q0, q1, q2, q3, q4, q5, q6, q7, q8, q9, q10, q11] at hfr
          subst hfr
          clear hT hall q0 q1 q2 q3 q4 q5 q6 q7 q8 q9 q10 q11
          go_wp2_with fail
          go_ret
          exact ⟨rfl, hBl5.trans (hG.mono hBl5.size)⟩

namespace CommandApart
open Go.ChangeShapes Go.WideShapes Go.ChangeAt Go.RowKit
set_option linter.unusedVariables false
theorem own : ownKnob Try.prog.godebug = none := by kernel_rfl
theorem laidOut : laidOutB Try.prog = true := by kernel_rfl
set_option maxRecDepth 100000 in
theorem lifted (os : Os) (started : os.Started) (H : Type) (enc : TypeId × Value → H) :
    ReturnsInHanded {} Try.checked os 6 .any (Rows.commandApartSpec.pre6 enc Try.prog Try.f6 Rows.commandApartRow.domain false) (Rows.commandApartSpec.post enc Try.prog Try.f6 false true false false) := by
  refine returnsInHanded_of_change (C := Try.checked) own started (by kernel_rfl) Try.func6
    (ChangeSpec.witness6 (enc := enc) (C := Try.checked) false ⟨#[], #[.agg #[.int .i64 0, .int .i64 0, .int .i64 0, .string ⟨#[]⟩, .int .u64 0, .int .i64 0, .int .u32 0, .slice none 0 0, .int .i64 0, .int .i64 0, .int .i64 0], .agg #[.int .i64 0, .int .i64 0, .int .i64 0, .string ⟨#[]⟩, .int .u64 0, .int .i64 0, .int .u32 0, .slice none 0 0, .int .i64 0, .int .i64 0, .int .i64 0]], []⟩ 8 (by kernel_rfl) (by kernel_rfl) (by kernel_rfl) (by kernel_rfl)) ?_
  intro W base args ds gs before hval0 hW hcnd _
  have hval : ∀ (j : Nat) t v, Try.f6.params[j]? = some t → args[j]? = some v → Value.okWide Try.prog W .any base t v := hval0
  have hW' := hW
  obtain ⟨p, q, hA0, hV, rfl, hfz, hnd⟩ := hW
  have hA : DataW.TrodAll enc Try.prog W 0 (fun _ => true) true Try.f6.params.toList args.toList ds p := hA0
  rw [Try.params6] at hA hval
  obtain ⟨v0, vs0, d0, ds0, p0, q0, hargs, rfl, rfl, h0, r0⟩ := trodAll_cons hA
  obtain ⟨v1, vs1, d1, ds1, p1, q1, rfl, rfl, rfl, h1, r1⟩ := trodAll_cons r0
  obtain ⟨rfl, rfl, rfl⟩ := trodAll_nil r1
  obtain rfl : args = #[v0, v1] := by cases args; simp_all
  obtain ⟨rfl, rfl⟩ := trodVars_none hV
  have lt0 : ∀ x ∈ p0, x.block < W.heap.size := by obtain ⟨m, hm⟩ := h0; exact DataW.trod_lt m _ _ _ hm
  obtain ⟨x0, w0⟩ := arg_open (KCmd) h0 (hval 0 _ v0 rfl rfl) (by kernel_rfl)
  have lt1 : ∀ x ∈ p1, x.block < W.heap.size := by obtain ⟨m, hm⟩ := h1; exact DataW.trod_lt m _ _ _ hm
  obtain ⟨x1, w1⟩ := arg_open (KCmd) h1 (hval 1 _ v1 rfl rfl) (by kernel_rfl)
  clear hA0 hval0
  refine (CommandApart_walk W v0 v1 x0 w0 x1 w1).mono fun e W' ⟨he, bel⟩ => ?_
  subst he
  exact ⟨_, rfl, _, _, _, [], _, [], hW', trodAll_mk1 (shut_bool (by kernel_rfl) _), (trodAll_cons_mk (Below.trod laidOut (by kernel_rfl) (of_decide_eq_true (by kernel_rfl)) h0 bel lt0) (trodAll_cons_mk (Below.trod laidOut (by kernel_rfl) (of_decide_eq_true (by kernel_rfl)) h1 bel lt1) trodAll_mk0)), rfl, bel.frame _, fun h => by cases h⟩

theorem over : Rows.commandApartRow.holds Try.pinned (OpenSpec.ofChange Rows.commandApartSpec) :=
  OpenClaim.holds_of_wide 6 Try.f6 rfl rfl rfl rfl rfl rfl rfl ⟨rfl, rfl, rfl, rfl, rfl⟩ rfl rfl rfl rfl rfl (by kernel_rfl) Try.func6 (by kernel_rfl)
    (of_decide_eq_true (by kernel_rfl)) (by unfold Func.isWrapper; rw [if_neg (of_decide_eq_false (by kernel_rfl))]; exact ⟨rfl, rfl⟩)
    (fun os started H enc _ => lifted os started H enc)
/-- THE STATEMENT. -/
theorem proved : Rows.CommandApartSaid := over
#print axioms proved
end CommandApart
end Go.Proofs.Ytafdnalanmbcpaa
