/- What command.Write answers. No condition. -/
import Derived.Test.YtafdnalanmbcpaaCmdPure
import Derived.Test.YtafdnalanmbcpaaWire3
import Derived.Test.YtafdnalanmbcpaaRegionInv
set_option linter.unusedSimpArgs false
set_option linter.unusedVariables false
namespace Go.Proofs.Ytafdnalanmbcpaa
open Go.RowKit
set_option maxHeartbeats 1000000
set_option maxRecDepth 100000

/-- a literal row at a block of its own -/
def Lit1 (b n : Nat) (cs : List Value) (U : TypeId) (v : Value) (w : World) : Prop := ∃ g, v = .slice (some ⟨g, 0, none⟩) n n ∧ g ≠ b ∧ Blk w g cs.toArray U
/-- blocks of other elements than bytes stay -/
def Keeps (b : Nat) (w w' : World) : Prop := w.heap.size ≤ w'.heap.size ∧ ∀ g cs U, U ≠ 5 → g ≠ b → Blk w g cs U → Blk w' g cs U
theorem not_encS' {w : World} {base b g : Nat} {cs : Array Value} {T : TypeId} (h : Blk w g cs T) (hb : g ≠ b) (hT : T ≠ 5) : ¬ encS w base b g := by
  rintro (e | ⟨_, cs', fr, e⟩)
  · exact hb e
  · unfold Blk at h
    rw [h] at e
    injection e with e
    injection e with _ e
    exact hT e
theorem Keeps.refl (b : Nat) (w : World) : Keeps b w w := ⟨Nat.le_refl _, fun _ _ _ _ _ h => h⟩
theorem Keeps.alloc (b : Nat) (w : World) (o : Obj) : Keeps b w (w.alloc o) := ⟨by simp, fun _ _ _ _ _ h => h.alloc _⟩
theorem Keeps.enc {w w' : World} {base b : Nat} (k : Only (encS w base b) w w') : Keeps b w w' := ⟨k.size, fun g cs U hU hg h => h.keep k (not_encS' h hg hU)⟩
theorem Lit1.keep {b n : Nat} {cs : List Value} {U : TypeId} {v : Value} {w w' : World} (h : Lit1 b n cs U v w) (hU : U ≠ 5) (k : Keeps b w w') : Lit1 b n cs U v w' := by
  obtain ⟨g, e, hg, hb⟩ := h
  exact ⟨g, e, hg, k.2 g _ _ hU hg hb⟩
theorem Lit1.sl {b n : Nat} {cs : List Value} {U : TypeId} {v : Value} {w : World} (h : Lit1 b n cs U v w) (hl : cs.length = n) (hn : n ≤ 1000) : Sl w v n 1 cs := by
  obtain ⟨g, rfl, hg, hb⟩ := h
  exact Sl.lit hb (by unfold maxLen; omega) (by omega)
theorem Lit1.apart {b n base : Nat} {cs : List Value} {U : TypeId} {v : Value} {w : World} (h : Lit1 b n cs U v w) (hU : U ≠ 5) : Apart w base b v := by
  obtain ⟨g, rfl, hg, hb⟩ := h
  intro ao m c e h0 a ha
  cases e
  cases ha
  exact not_encS' hb hg hU
theorem only_belowB {w0 w w' : World} {B base b : Nat} (h : Below B w0 w) (k : Only (encS w base b) w w') (h1 : B ≤ base) (h2 : B ≤ b) (hB : B ≤ w0.heap.size) : Below B w0 w' :=
  h.trans (k.below (Nat.le_trans hB h.size) (fun x hx e => by rcases e with e | ⟨e, _⟩ <;> omega))
theorem apart_olds {w0 w : World} {base b n : Nat} {arg : Value} {xs : List Value} (h : Sl w0 arg n 1 xs) (h1 : w0.heap.size ≤ base) (h2 : w0.heap.size ≤ b) : Apart w base b arg := by
  obtain ⟨ao', cap', rfl, _, _, _, h5⟩ := h
  intro ao m c e h0 a ha hs
  cases e
  obtain ⟨bb, off, e, hb, _⟩ := h5 h0
  rw [e] at ha
  cases ha
  rcases hs with hs | ⟨hs, _⟩
  · simp only at hs; omega
  · simp only at hs; omega

/-- a command as a value -/
def Cmd.cells (c : Cmd) (dao : Option Addr) (dcap : Nat) : Array Value := #[.int .i64 (c.kind), .int .i64 (c.client), .int .i64 (c.seq), .string (bs c.name), .int .u64 (c.blob : Int), .int .i64 (c.size), .int .u32 (c.sum : Int), .slice dao c.disks.length dcap, .int .i64 (c.pool), .int .i64 (c.vol), .int .i64 (c.blk)]
/-- numbers that are of their kinds -/
structure Cmd.Wf (c : Cmd) : Prop where
  kind : -9223372036854775808 ≤ c.kind ∧ c.kind ≤ 9223372036854775807
  client : -9223372036854775808 ≤ c.client ∧ c.client ≤ 9223372036854775807
  seq : -9223372036854775808 ≤ c.seq ∧ c.seq ≤ 9223372036854775807
  blob : c.blob < 2 ^ 64
  size : -9223372036854775808 ≤ c.size ∧ c.size ≤ 9223372036854775807
  sum : c.sum < 2 ^ 32
  disks : ∀ x ∈ c.disks, -9223372036854775808 ≤ x ∧ x ≤ 9223372036854775807
  pool : -9223372036854775808 ≤ c.pool ∧ c.pool ≤ 9223372036854775807
  vol : -9223372036854775808 ≤ c.vol ∧ c.vol ≤ 9223372036854775807
  blk : -9223372036854775808 ≤ c.blk ∧ c.blk ≤ 9223372036854775807


theorem cmd_Write (c : Cmd) (hc : c.Wf) (hn : c.name.length ≤ 1000) (hd : c.disks.length ≤ 1000) (dao : Option Addr) (dcap : Nat) (W : World) (hs : Sl W (.slice dao c.disks.length dcap) c.disks.length 1 (i64v c.disks)) :
    Calls Try.prog 13 #[.agg (c.cells dao dcap)] W (Fresh (.string (bs c.bytes)) W) := by
  obtain ⟨kind, client, seq, name, blob, size, sum, disks, pool, vol, blk⟩ := c
  obtain ⟨o1, o2, o3, o4, o5, o6, o7, o8, o9, o10⟩ := hc
  simp only at o1 o2 o3 o4 o5 o6 o7 o8 o9 o10 hn hd hs ⊢
  unfold Cmd.cells
  simp only
  (go_enter Try.func13, Try.ntmps13)
  go_wp2_with fail
  have hBx : Blk ((W.alloc (.cells #[.int .i64 (kind), .int .i64 (client), .int .i64 (seq), .string (bs name), .int .u64 (blob : Int), .int .i64 (size), .int .u32 (sum : Int), .slice dao disks.length dcap, .int .i64 (pool), .int .i64 (vol), .int .i64 (blk)] 26)).alloc (.cells #[.slice none 0 0] 54)) W.heap.size #[.int .i64 (kind), .int .i64 (client), .int .i64 (seq), .string (bs name), .int .u64 (blob : Int), .int .i64 (size), .int .u32 (sum : Int), .slice dao disks.length dcap, .int .i64 (pool), .int .i64 (vol), .int .i64 (blk)] 26 := (Blk.new _ _ _).alloc _
  have hE0 : EncV ((W.alloc (.cells #[.int .i64 (kind), .int .i64 (client), .int .i64 (seq), .string (bs name), .int .u64 (blob : Int), .int .i64 (size), .int .u32 (sum : Int), .slice dao disks.length dcap, .int .i64 (pool), .int .i64 (vol), .int .i64 (blk)] 26)).alloc (.cells #[.slice none 0 0] 54)) (W.heap.size + 2) (W.heap.size + 1) (.slice none 0 0) [] := ⟨Blk.new' (by simp), World.ownsRow_nil _ _ _ _, by simp⟩
  have hBl : Below W.heap.size W ((W.alloc (.cells #[.int .i64 (kind), .int .i64 (client), .int .i64 (seq), .string (bs name), .int .u64 (blob : Int), .int .i64 (size), .int .u32 (sum : Int), .slice dao disks.length dcap, .int .i64 (pool), .int .i64 (vol), .int .i64 (blk)] 26)).alloc (.cells #[.slice none 0 0] 54)) := (by repeat' (first | exact Below.refl _ _ | assumption | refine Below.setCell ?_ (by first | omega | (simp; done) | (simp; omega)) _ | refine Below.alloc ?_ (by first | omega | (simp; done) | (simp; omega)) _ | refine below_drew ?_ _ | apply Below.drew))
  generalize (W.alloc (.cells #[.int .i64 (kind), .int .i64 (client), .int .i64 (seq), .string (bs name), .int .u64 (blob : Int), .int .i64 (size), .int .u32 (sum : Int), .slice dao disks.length dcap, .int .i64 (pool), .int .i64 (vol), .int .i64 (blk)] 26)).alloc (.cells #[.slice none 0 0] 54) = w0 at *
  obtain ⟨B1, hB1'⟩ : ∃ l, l = [] ++ Wire.nums [kind, client, seq] := ⟨_, rfl⟩
  obtain ⟨B2, hB2⟩ : ∃ l, l = B1 ++ Wire.texts [bs name] := ⟨_, rfl⟩
  obtain ⟨B3, hB3⟩ : ∃ l, l = B2 ++ [blob].flatMap Wire.num := ⟨_, rfl⟩
  obtain ⟨B4, hB4⟩ : ∃ l, l = B3 ++ Wire.nums [size] := ⟨_, rfl⟩
  obtain ⟨B5, hB5⟩ : ∃ l, l = B4 ++ [sum].flatMap Wire.num := ⟨_, rfl⟩
  obtain ⟨B6, hB6⟩ : ∃ l, l = B5 ++ Wire.num disks.length ++ Wire.nums disks := ⟨_, rfl⟩
  have l1 : B1.length ≤ 30 := by
    have := Wire.nums_le [kind, client, seq] (by simp; omega)
    rw [hB1', List.nil_append]; simpa using this
  have l2 : B2.length ≤ 2000 := by
    have h1 := Wire.num_le (bs name).size (by rw [bs_size]; omega)
    have h2 : (bs name).data.toList = name := rfl
    rw [hB2]; simp only [Wire.texts, Wire.text, List.flatMap_cons, List.flatMap_nil, List.append_nil, List.length_append, h2]; omega
  have l3 : B3.length ≤ 2010 := by
    have := Wire.num_le blob (by omega)
    rw [hB3]; simp only [List.flatMap_cons, List.flatMap_nil, List.append_nil, List.length_append]; omega
  have l4 : B4.length ≤ 2020 := by
    have := Wire.nums_le [size] (by simp; omega)
    rw [hB4]; simp only [List.length_append]; simp only [List.length_cons, List.length_nil] at this; omega
  have l5 : B5.length ≤ 2030 := by
    have := Wire.num_le sum (by omega)
    rw [hB5]; simp only [List.flatMap_cons, List.flatMap_nil, List.append_nil, List.length_append]; omega
  have l6 : B6.length ≤ 20000 := by
    have h1 := Wire.num_le disks.length (by omega)
    have h2 := Wire.nums_le disks (fun x hx => (o7 x hx).2)
    rw [hB6]; simp only [List.length_append]; omega
  have hwr : IntKind.u64.wrap (sum : Int) = (sum : Int) := by rw [IntKind.wrap_u64]; omega
  refine Inv.region_inv (n := 28) (by kernel_rfl) [some 4, some 5, some 6, some 7, some 8, some 9, some 10, some 11, some 12, some 13, some 14, some 15, some 16, some 17, some 18, some 19, some 20, some 21, some 22, some 23, some 24, some 25, some 26, some 27, some 28, some 29, some 30, some 31] rfl (by kernel_rfl) (by kernel_rfl) rfl (by rfl)
    (fun d v w => match d with
      | 0 => v = .pointer (some ⟨W.heap.size, 0, none⟩)
      | 1 => v = .int .i64 (kind)
      | 2 => v = .pointer (some ⟨W.heap.size, 1, none⟩)
      | 3 => v = .int .i64 (client)
      | 4 => v = .pointer (some ⟨W.heap.size, 2, none⟩)
      | 5 => v = .int .i64 (seq)
      | 6 => Lit1 (W.heap.size + 1) 3 (i64v [kind, client, seq]) 3 v w
      | 7 => v = .pointer (some ⟨(W.heap.size + 1), 0, none⟩)
      | 8 => v = .pointer (some ⟨W.heap.size, 3, none⟩)
      | 9 => v = .string (bs name)
      | 10 => Lit1 (W.heap.size + 1) 1 (strv [bs name]) 9 v w
      | 11 => v = .pointer (some ⟨(W.heap.size + 1), 0, none⟩)
      | 12 => v = .pointer (some ⟨W.heap.size, 4, none⟩)
      | 13 => v = .int .u64 (blob : Int)
      | 14 => Lit1 (W.heap.size + 1) 1 (u64v [blob]) 22 v w
      | 15 => v = .pointer (some ⟨(W.heap.size + 1), 0, none⟩)
      | 16 => v = .pointer (some ⟨W.heap.size, 5, none⟩)
      | 17 => v = .int .i64 (size)
      | 18 => Lit1 (W.heap.size + 1) 1 (i64v [size]) 3 v w
      | 19 => v = .pointer (some ⟨(W.heap.size + 1), 0, none⟩)
      | 20 => v = .pointer (some ⟨W.heap.size, 6, none⟩)
      | 21 => v = .int .u32 (sum : Int)
      | 22 => v = .int .u64 (sum : Int)
      | 23 => Lit1 (W.heap.size + 1) 1 (u64v [sum]) 22 v w
      | 24 => v = .pointer (some ⟨(W.heap.size + 1), 0, none⟩)
      | 25 => v = .pointer (some ⟨W.heap.size, 7, none⟩)
      | 26 => v = .slice dao disks.length dcap
      | 27 => v = .pointer (some ⟨(W.heap.size + 1), 0, none⟩)
      | _ => True) (Keeps (W.heap.size + 1))
    (fun listed w => Blk w W.heap.size #[.int .i64 (kind), .int .i64 (client), .int .i64 (seq), .string (bs name), .int .u64 (blob : Int), .int .i64 (size), .int .u32 (sum : Int), .slice dao disks.length dcap, .int .i64 (pool), .int .i64 (vol), .int .i64 (blk)] 26 ∧ Below W.heap.size W w ∧ ∃ v, EncV w (W.heap.size + 2) (W.heap.size + 1) v (if listed.getD 27 false = true then B6 else if listed.getD 24 false = true then B5 else if listed.getD 19 false = true then B4 else if listed.getD 15 false = true then B3 else if listed.getD 11 false = true then B2 else if listed.getD 7 false = true then B1 else [])) ?_ ?_ ?_ ?_
  · intro d v w w' k h
    match d, h with
    | 0, h => exact h
    | 1, h => exact h
    | 2, h => exact h
    | 3, h => exact h
    | 4, h => exact h
    | 5, h => exact h
    | 6, h => exact Lit1.keep h (by decide) k
    | 7, h => exact h
    | 8, h => exact h
    | 9, h => exact h
    | 10, h => exact Lit1.keep h (by decide) k
    | 11, h => exact h
    | 12, h => exact h
    | 13, h => exact h
    | 14, h => exact Lit1.keep h (by decide) k
    | 15, h => exact h
    | 16, h => exact h
    | 17, h => exact h
    | 18, h => exact Lit1.keep h (by decide) k
    | 19, h => exact h
    | 20, h => exact h
    | 21, h => exact h
    | 22, h => exact h
    | 23, h => exact Lit1.keep h (by decide) k
    | 24, h => exact h
    | 25, h => exact h
    | 26, h => exact h
    | 27, h => exact h
    | d + 28, h => exact trivial
  · refine ⟨hBx, below_drew hBl 1, .slice none 0 0, ?_⟩
    have e : ∀ j, (Array.replicate 28 false).getD j false = false := Inv.getD_rep 28
    simp only [e, Bool.false_eq_true, if_false]
    exact ⟨hE0.blk, hE0.own, hE0.le⟩
  · intro i o listed a vs w ho hls hl hdep hcl hout hev hT hG
    clear hBx hBl hE0
    obtain ⟨hBx, hBl, v, hE⟩ := hG
    have hi : i < 28 := (Array.getElem?_eq_some_iff.1 ho).1
    have i28 : i = 0 ∨ i = 1 ∨ i = 2 ∨ i = 3 ∨ i = 4 ∨ i = 5 ∨ i = 6 ∨ i = 7 ∨ i = 8 ∨ i = 9 ∨ i = 10 ∨ i = 11 ∨ i = 12 ∨ i = 13 ∨ i = 14 ∨ i = 15 ∨ i = 16 ∨ i = 17 ∨ i = 18 ∨ i = 19 ∨ i = 20 ∨ i = 21 ∨ i = 22 ∨ i = 23 ∨ i = 24 ∨ i = 25 ∨ i = 26 ∨ i = 27 := by omega
    rcases i28 with rfl | rfl | rfl | rfl | rfl | rfl | rfl | rfl | rfl | rfl | rfl | rfl | rfl | rfl | rfl | rfl | rfl | rfl | rfl | rfl | rfl | rfl | rfl | rfl | rfl | rfl | rfl | rfl
    · simp only [List.getElem?_toArray, List.getElem?_cons_zero, List.getElem?_cons_succ, Option.some.injEq] at ho
      subst ho
      refine ⟨rfl, fun K hK => ?_⟩
      have q := (hout 1 (by decide)).trans (rfl : _ = (.pointer (some ⟨W.heap.size, 0, none⟩) : Value))
      simp only [Act.eval, Array.getD_eq_getD_getElem?] at q
      unfold Oper.wp
      simp [execOp, q, go_sem, Oper.upon]
      refine hK _ _ (Keeps.refl _ _) ⟨hBx, hBl, v, ?_⟩ rfl
      rw [getD_set_ne (i := 0) (j := 27) false (by decide), getD_set_ne (i := 0) (j := 24) false (by decide), getD_set_ne (i := 0) (j := 19) false (by decide), getD_set_ne (i := 0) (j := 15) false (by decide), getD_set_ne (i := 0) (j := 11) false (by decide), getD_set_ne (i := 0) (j := 7) false (by decide)]
      exact hE
    · simp only [List.getElem?_toArray, List.getElem?_cons_zero, List.getElem?_cons_succ, Option.some.injEq] at ho
      subst ho
      refine ⟨rfl, fun K hK => ?_⟩
      have d0 := hdep ⟨0, .data⟩ (by simp) rfl
      have e0 := hev 0 4 rfl d0
      rw [hT 0 d0] at e0
      have hc := hBx.cell 0
      simp only [List.getElem?_toArray, List.getElem?_cons_zero, List.getElem?_cons_succ] at hc
      simp only [Act.eval, Array.getD_eq_getD_getElem?] at e0
      unfold Oper.wp
      simp [execOp, e0, hc, go_sem, Oper.upon]
      refine hK _ _ (Keeps.refl _ _) ⟨hBx, hBl, v, ?_⟩ rfl
      rw [getD_set_ne (i := 1) (j := 27) false (by decide), getD_set_ne (i := 1) (j := 24) false (by decide), getD_set_ne (i := 1) (j := 19) false (by decide), getD_set_ne (i := 1) (j := 15) false (by decide), getD_set_ne (i := 1) (j := 11) false (by decide), getD_set_ne (i := 1) (j := 7) false (by decide)]
      exact hE
    · simp only [List.getElem?_toArray, List.getElem?_cons_zero, List.getElem?_cons_succ, Option.some.injEq] at ho
      subst ho
      refine ⟨rfl, fun K hK => ?_⟩
      have q := (hout 1 (by decide)).trans (rfl : _ = (.pointer (some ⟨W.heap.size, 0, none⟩) : Value))
      simp only [Act.eval, Array.getD_eq_getD_getElem?] at q
      unfold Oper.wp
      simp [execOp, q, go_sem, Oper.upon]
      refine hK _ _ (Keeps.refl _ _) ⟨hBx, hBl, v, ?_⟩ rfl
      rw [getD_set_ne (i := 2) (j := 27) false (by decide), getD_set_ne (i := 2) (j := 24) false (by decide), getD_set_ne (i := 2) (j := 19) false (by decide), getD_set_ne (i := 2) (j := 15) false (by decide), getD_set_ne (i := 2) (j := 11) false (by decide), getD_set_ne (i := 2) (j := 7) false (by decide)]
      exact hE
    · simp only [List.getElem?_toArray, List.getElem?_cons_zero, List.getElem?_cons_succ, Option.some.injEq] at ho
      subst ho
      refine ⟨rfl, fun K hK => ?_⟩
      have d2 := hdep ⟨2, .data⟩ (by simp) rfl
      have e2 := hev 2 6 rfl d2
      rw [hT 2 d2] at e2
      have hc := hBx.cell 1
      simp only [List.getElem?_toArray, List.getElem?_cons_zero, List.getElem?_cons_succ] at hc
      simp only [Act.eval, Array.getD_eq_getD_getElem?] at e2
      unfold Oper.wp
      simp [execOp, e2, hc, go_sem, Oper.upon]
      refine hK _ _ (Keeps.refl _ _) ⟨hBx, hBl, v, ?_⟩ rfl
      rw [getD_set_ne (i := 3) (j := 27) false (by decide), getD_set_ne (i := 3) (j := 24) false (by decide), getD_set_ne (i := 3) (j := 19) false (by decide), getD_set_ne (i := 3) (j := 15) false (by decide), getD_set_ne (i := 3) (j := 11) false (by decide), getD_set_ne (i := 3) (j := 7) false (by decide)]
      exact hE
    · simp only [List.getElem?_toArray, List.getElem?_cons_zero, List.getElem?_cons_succ, Option.some.injEq] at ho
      subst ho
      refine ⟨rfl, fun K hK => ?_⟩
      have q := (hout 1 (by decide)).trans (rfl : _ = (.pointer (some ⟨W.heap.size, 0, none⟩) : Value))
      simp only [Act.eval, Array.getD_eq_getD_getElem?] at q
      unfold Oper.wp
      simp [execOp, q, go_sem, Oper.upon]
      refine hK _ _ (Keeps.refl _ _) ⟨hBx, hBl, v, ?_⟩ rfl
      rw [getD_set_ne (i := 4) (j := 27) false (by decide), getD_set_ne (i := 4) (j := 24) false (by decide), getD_set_ne (i := 4) (j := 19) false (by decide), getD_set_ne (i := 4) (j := 15) false (by decide), getD_set_ne (i := 4) (j := 11) false (by decide), getD_set_ne (i := 4) (j := 7) false (by decide)]
      exact hE
    · simp only [List.getElem?_toArray, List.getElem?_cons_zero, List.getElem?_cons_succ, Option.some.injEq] at ho
      subst ho
      refine ⟨rfl, fun K hK => ?_⟩
      have d4 := hdep ⟨4, .data⟩ (by simp) rfl
      have e4 := hev 4 8 rfl d4
      rw [hT 4 d4] at e4
      have hc := hBx.cell 2
      simp only [List.getElem?_toArray, List.getElem?_cons_zero, List.getElem?_cons_succ] at hc
      simp only [Act.eval, Array.getD_eq_getD_getElem?] at e4
      unfold Oper.wp
      simp [execOp, e4, hc, go_sem, Oper.upon]
      refine hK _ _ (Keeps.refl _ _) ⟨hBx, hBl, v, ?_⟩ rfl
      rw [getD_set_ne (i := 5) (j := 27) false (by decide), getD_set_ne (i := 5) (j := 24) false (by decide), getD_set_ne (i := 5) (j := 19) false (by decide), getD_set_ne (i := 5) (j := 15) false (by decide), getD_set_ne (i := 5) (j := 11) false (by decide), getD_set_ne (i := 5) (j := 7) false (by decide)]
      exact hE
    · simp only [List.getElem?_toArray, List.getElem?_cons_zero, List.getElem?_cons_succ, Option.some.injEq] at ho
      subst ho
      refine ⟨rfl, fun K hK => ?_⟩
      have d1 := hdep ⟨1, .data⟩ (by simp) rfl
      have e1 := hev 1 5 rfl d1
      rw [hT 1 d1] at e1
      have d3 := hdep ⟨3, .data⟩ (by simp) rfl
      have e3 := hev 3 7 rfl d3
      rw [hT 3 d3] at e3
      have d5 := hdep ⟨5, .data⟩ (by simp) rfl
      have e5 := hev 5 9 rfl d5
      rw [hT 5 d5] at e5
      simp only [Act.eval, Array.getD_eq_getD_getElem?] at e1 e3 e5
      unfold Oper.wp
      simp [execOp, e1, e3, e5, go_sem, Oper.upon]
      have hne : w.heap.size ≠ W.heap.size + 1 := by have := hE.blk.lt; omega
      refine hK _ _ (Keeps.alloc _ _ _) ⟨hBx.alloc _, hBl.alloc hBl.size _, v, ?_⟩ ⟨w.heap.size, rfl, hne, Blk.new _ _ _⟩
      rw [getD_set_ne (i := 6) (j := 27) false (by decide), getD_set_ne (i := 6) (j := 24) false (by decide), getD_set_ne (i := 6) (j := 19) false (by decide), getD_set_ne (i := 6) (j := 15) false (by decide), getD_set_ne (i := 6) (j := 11) false (by decide), getD_set_ne (i := 6) (j := 7) false (by decide)]
      exact ⟨hE.blk.alloc _, hE.own.alloc _, Nat.le_trans hE.le (by simp)⟩
    · simp only [List.getElem?_toArray, List.getElem?_cons_zero, List.getElem?_cons_succ, Option.some.injEq] at ho
      subst ho
      refine ⟨rfl, fun K hK => ?_⟩
      have d6 := hdep ⟨6, .data⟩ (by simp) rfl
      have e6 := hev 6 10 rfl d6
      have t := hT 6 d6
      have q := (hout 3 (by decide)).trans (rfl : _ = (.pointer (some ⟨(W.heap.size + 1), 0, none⟩) : Value))
      have n7 := hl
      have n11 : listed.getD 11 false = false := by
        cases h : listed.getD 11 false
        · rfl
        · exact absurd (hcl 11 _ rfl h ⟨7, .data⟩ (by simp) rfl) (by rw [n7]; decide)
      have n15 : listed.getD 15 false = false := by
        cases h : listed.getD 15 false
        · rfl
        · exact absurd (hcl 15 _ rfl h ⟨11, .data⟩ (by simp) rfl) (by rw [n11]; decide)
      have n19 : listed.getD 19 false = false := by
        cases h : listed.getD 19 false
        · rfl
        · exact absurd (hcl 19 _ rfl h ⟨15, .data⟩ (by simp) rfl) (by rw [n15]; decide)
      have n24 : listed.getD 24 false = false := by
        cases h : listed.getD 24 false
        · rfl
        · exact absurd (hcl 24 _ rfl h ⟨19, .data⟩ (by simp) rfl) (by rw [n19]; decide)
      have n27 : listed.getD 27 false = false := by
        cases h : listed.getD 27 false
        · rfl
        · exact absurd (hcl 27 _ rfl h ⟨24, .data⟩ (by simp) rfl) (by rw [n24]; decide)
      simp only [n7, n11, n15, n19, n24, n27, Bool.false_eq_true, if_false] at hE
      have HU := Lib.hid (enc_I [kind, client, seq] (by simp; omega) (W.heap.size + 2) (W.heap.size + 1) _ [] (by simp <;> omega) _ w hE (t.sl rfl (by omega)) (t.apart (by decide)))
      simp only [Act.eval, Array.getD_eq_getD_getElem?] at q e6
      unfold Oper.wp
      simp [execOp, q, e6, go_sem, Oper.upon]
      refine HU.out.mono ?_
      rintro e w' ⟨rfl, v', hE', hO'⟩
      refine hK _ _ (Keeps.enc hO') ⟨hBx.keep hO' (not_encS' hBx (by omega) (by decide)), only_belowB hBl hO' (by omega) (by omega) (Nat.le_refl _), v', ?_⟩ rfl
      simp only [getD_set_ne (i := 7) (j := 27) false (by decide), n27, getD_set_ne (i := 7) (j := 24) false (by decide), n24, getD_set_ne (i := 7) (j := 19) false (by decide), n19, getD_set_ne (i := 7) (j := 15) false (by decide), n15, getD_set_ne (i := 7) (j := 11) false (by decide), n11, Inv.getD_set_self (i := 7) (l := listed) (by omega), Bool.false_eq_true, if_false, if_true]
      rw [hB1']
      exact hE'
    · simp only [List.getElem?_toArray, List.getElem?_cons_zero, List.getElem?_cons_succ, Option.some.injEq] at ho
      subst ho
      refine ⟨rfl, fun K hK => ?_⟩
      have q := (hout 1 (by decide)).trans (rfl : _ = (.pointer (some ⟨W.heap.size, 0, none⟩) : Value))
      simp only [Act.eval, Array.getD_eq_getD_getElem?] at q
      unfold Oper.wp
      simp [execOp, q, go_sem, Oper.upon]
      refine hK _ _ (Keeps.refl _ _) ⟨hBx, hBl, v, ?_⟩ rfl
      rw [getD_set_ne (i := 8) (j := 27) false (by decide), getD_set_ne (i := 8) (j := 24) false (by decide), getD_set_ne (i := 8) (j := 19) false (by decide), getD_set_ne (i := 8) (j := 15) false (by decide), getD_set_ne (i := 8) (j := 11) false (by decide), getD_set_ne (i := 8) (j := 7) false (by decide)]
      exact hE
    · simp only [List.getElem?_toArray, List.getElem?_cons_zero, List.getElem?_cons_succ, Option.some.injEq] at ho
      subst ho
      refine ⟨rfl, fun K hK => ?_⟩
      have d8 := hdep ⟨8, .data⟩ (by simp) rfl
      have e8 := hev 8 12 rfl d8
      rw [hT 8 d8] at e8
      have hc := hBx.cell 3
      simp only [List.getElem?_toArray, List.getElem?_cons_zero, List.getElem?_cons_succ] at hc
      simp only [Act.eval, Array.getD_eq_getD_getElem?] at e8
      unfold Oper.wp
      simp [execOp, e8, hc, go_sem, Oper.upon]
      refine hK _ _ (Keeps.refl _ _) ⟨hBx, hBl, v, ?_⟩ rfl
      rw [getD_set_ne (i := 9) (j := 27) false (by decide), getD_set_ne (i := 9) (j := 24) false (by decide), getD_set_ne (i := 9) (j := 19) false (by decide), getD_set_ne (i := 9) (j := 15) false (by decide), getD_set_ne (i := 9) (j := 11) false (by decide), getD_set_ne (i := 9) (j := 7) false (by decide)]
      exact hE
    · simp only [List.getElem?_toArray, List.getElem?_cons_zero, List.getElem?_cons_succ, Option.some.injEq] at ho
      subst ho
      refine ⟨rfl, fun K hK => ?_⟩
      have d9 := hdep ⟨9, .data⟩ (by simp) rfl
      have e9 := hev 9 13 rfl d9
      rw [hT 9 d9] at e9
      simp only [Act.eval, Array.getD_eq_getD_getElem?] at e9
      unfold Oper.wp
      simp [execOp, e9, go_sem, Oper.upon]
      have hne : w.heap.size ≠ W.heap.size + 1 := by have := hE.blk.lt; omega
      refine hK _ _ (Keeps.alloc _ _ _) ⟨hBx.alloc _, hBl.alloc hBl.size _, v, ?_⟩ ⟨w.heap.size, rfl, hne, Blk.new _ _ _⟩
      rw [getD_set_ne (i := 10) (j := 27) false (by decide), getD_set_ne (i := 10) (j := 24) false (by decide), getD_set_ne (i := 10) (j := 19) false (by decide), getD_set_ne (i := 10) (j := 15) false (by decide), getD_set_ne (i := 10) (j := 11) false (by decide), getD_set_ne (i := 10) (j := 7) false (by decide)]
      exact ⟨hE.blk.alloc _, hE.own.alloc _, Nat.le_trans hE.le (by simp)⟩
    · simp only [List.getElem?_toArray, List.getElem?_cons_zero, List.getElem?_cons_succ, Option.some.injEq] at ho
      subst ho
      refine ⟨rfl, fun K hK => ?_⟩
      have d10 := hdep ⟨10, .data⟩ (by simp) rfl
      have e10 := hev 10 14 rfl d10
      have t := hT 10 d10
      have d7 := hdep ⟨7, .data⟩ (by simp) rfl
      have e7 := hev 7 11 rfl d7
      have q := e7
      rw [hT 7 d7] at q
      have n11 := hl
      have n15 : listed.getD 15 false = false := by
        cases h : listed.getD 15 false
        · rfl
        · exact absurd (hcl 15 _ rfl h ⟨11, .data⟩ (by simp) rfl) (by rw [n11]; decide)
      have n19 : listed.getD 19 false = false := by
        cases h : listed.getD 19 false
        · rfl
        · exact absurd (hcl 19 _ rfl h ⟨15, .data⟩ (by simp) rfl) (by rw [n15]; decide)
      have n24 : listed.getD 24 false = false := by
        cases h : listed.getD 24 false
        · rfl
        · exact absurd (hcl 24 _ rfl h ⟨19, .data⟩ (by simp) rfl) (by rw [n19]; decide)
      have n27 : listed.getD 27 false = false := by
        cases h : listed.getD 27 false
        · rfl
        · exact absurd (hcl 27 _ rfl h ⟨24, .data⟩ (by simp) rfl) (by rw [n24]; decide)
      simp only [n11, n15, n19, n24, n27, d7, Bool.false_eq_true, if_false, if_true] at hE
      have HU := Lib.hid (enc_S [bs name] (by simp [bs_size]; omega) (W.heap.size + 2) (W.heap.size + 1) _ B1 (by simp <;> omega) _ w hE (t.sl rfl (by omega)) (t.apart (by decide)))
      simp only [Act.eval, Array.getD_eq_getD_getElem?] at q e10
      unfold Oper.wp
      simp [execOp, q, e10, go_sem, Oper.upon]
      refine HU.out.mono ?_
      rintro e w' ⟨rfl, v', hE', hO'⟩
      refine hK _ _ (Keeps.enc hO') ⟨hBx.keep hO' (not_encS' hBx (by omega) (by decide)), only_belowB hBl hO' (by omega) (by omega) (Nat.le_refl _), v', ?_⟩ rfl
      simp only [getD_set_ne (i := 11) (j := 27) false (by decide), n27, getD_set_ne (i := 11) (j := 24) false (by decide), n24, getD_set_ne (i := 11) (j := 19) false (by decide), n19, getD_set_ne (i := 11) (j := 15) false (by decide), n15, Inv.getD_set_self (i := 11) (l := listed) (by omega), Bool.false_eq_true, if_false, if_true]
      rw [hB2]
      exact hE'
    · simp only [List.getElem?_toArray, List.getElem?_cons_zero, List.getElem?_cons_succ, Option.some.injEq] at ho
      subst ho
      refine ⟨rfl, fun K hK => ?_⟩
      have q := (hout 1 (by decide)).trans (rfl : _ = (.pointer (some ⟨W.heap.size, 0, none⟩) : Value))
      simp only [Act.eval, Array.getD_eq_getD_getElem?] at q
      unfold Oper.wp
      simp [execOp, q, go_sem, Oper.upon]
      refine hK _ _ (Keeps.refl _ _) ⟨hBx, hBl, v, ?_⟩ rfl
      rw [getD_set_ne (i := 12) (j := 27) false (by decide), getD_set_ne (i := 12) (j := 24) false (by decide), getD_set_ne (i := 12) (j := 19) false (by decide), getD_set_ne (i := 12) (j := 15) false (by decide), getD_set_ne (i := 12) (j := 11) false (by decide), getD_set_ne (i := 12) (j := 7) false (by decide)]
      exact hE
    · simp only [List.getElem?_toArray, List.getElem?_cons_zero, List.getElem?_cons_succ, Option.some.injEq] at ho
      subst ho
      refine ⟨rfl, fun K hK => ?_⟩
      have d12 := hdep ⟨12, .data⟩ (by simp) rfl
      have e12 := hev 12 16 rfl d12
      rw [hT 12 d12] at e12
      have hc := hBx.cell 4
      simp only [List.getElem?_toArray, List.getElem?_cons_zero, List.getElem?_cons_succ] at hc
      simp only [Act.eval, Array.getD_eq_getD_getElem?] at e12
      unfold Oper.wp
      simp [execOp, e12, hc, go_sem, Oper.upon]
      refine hK _ _ (Keeps.refl _ _) ⟨hBx, hBl, v, ?_⟩ rfl
      rw [getD_set_ne (i := 13) (j := 27) false (by decide), getD_set_ne (i := 13) (j := 24) false (by decide), getD_set_ne (i := 13) (j := 19) false (by decide), getD_set_ne (i := 13) (j := 15) false (by decide), getD_set_ne (i := 13) (j := 11) false (by decide), getD_set_ne (i := 13) (j := 7) false (by decide)]
      exact hE
    · simp only [List.getElem?_toArray, List.getElem?_cons_zero, List.getElem?_cons_succ, Option.some.injEq] at ho
      subst ho
      refine ⟨rfl, fun K hK => ?_⟩
      have d13 := hdep ⟨13, .data⟩ (by simp) rfl
      have e13 := hev 13 17 rfl d13
      rw [hT 13 d13] at e13
      simp only [Act.eval, Array.getD_eq_getD_getElem?] at e13
      unfold Oper.wp
      simp [execOp, e13, go_sem, Oper.upon]
      have hne : w.heap.size ≠ W.heap.size + 1 := by have := hE.blk.lt; omega
      refine hK _ _ (Keeps.alloc _ _ _) ⟨hBx.alloc _, hBl.alloc hBl.size _, v, ?_⟩ ⟨w.heap.size, rfl, hne, Blk.new _ _ _⟩
      rw [getD_set_ne (i := 14) (j := 27) false (by decide), getD_set_ne (i := 14) (j := 24) false (by decide), getD_set_ne (i := 14) (j := 19) false (by decide), getD_set_ne (i := 14) (j := 15) false (by decide), getD_set_ne (i := 14) (j := 11) false (by decide), getD_set_ne (i := 14) (j := 7) false (by decide)]
      exact ⟨hE.blk.alloc _, hE.own.alloc _, Nat.le_trans hE.le (by simp)⟩
    · simp only [List.getElem?_toArray, List.getElem?_cons_zero, List.getElem?_cons_succ, Option.some.injEq] at ho
      subst ho
      refine ⟨rfl, fun K hK => ?_⟩
      have d14 := hdep ⟨14, .data⟩ (by simp) rfl
      have e14 := hev 14 18 rfl d14
      have t := hT 14 d14
      have d11 := hdep ⟨11, .data⟩ (by simp) rfl
      have e11 := hev 11 15 rfl d11
      have q := e11
      rw [hT 11 d11] at q
      have n15 := hl
      have n19 : listed.getD 19 false = false := by
        cases h : listed.getD 19 false
        · rfl
        · exact absurd (hcl 19 _ rfl h ⟨15, .data⟩ (by simp) rfl) (by rw [n15]; decide)
      have n24 : listed.getD 24 false = false := by
        cases h : listed.getD 24 false
        · rfl
        · exact absurd (hcl 24 _ rfl h ⟨19, .data⟩ (by simp) rfl) (by rw [n19]; decide)
      have n27 : listed.getD 27 false = false := by
        cases h : listed.getD 27 false
        · rfl
        · exact absurd (hcl 27 _ rfl h ⟨24, .data⟩ (by simp) rfl) (by rw [n24]; decide)
      simp only [n15, n19, n24, n27, d11, Bool.false_eq_true, if_false, if_true] at hE
      have HU := Lib.hid (enc_U [blob] (by simp; omega) (W.heap.size + 2) (W.heap.size + 1) _ B2 (by simp <;> omega) _ w hE (t.sl rfl (by omega)) (t.apart (by decide)))
      simp only [Act.eval, Array.getD_eq_getD_getElem?] at q e14
      unfold Oper.wp
      simp [execOp, q, e14, go_sem, Oper.upon]
      refine HU.out.mono ?_
      rintro e w' ⟨rfl, v', hE', hO'⟩
      refine hK _ _ (Keeps.enc hO') ⟨hBx.keep hO' (not_encS' hBx (by omega) (by decide)), only_belowB hBl hO' (by omega) (by omega) (Nat.le_refl _), v', ?_⟩ rfl
      simp only [getD_set_ne (i := 15) (j := 27) false (by decide), n27, getD_set_ne (i := 15) (j := 24) false (by decide), n24, getD_set_ne (i := 15) (j := 19) false (by decide), n19, Inv.getD_set_self (i := 15) (l := listed) (by omega), Bool.false_eq_true, if_false, if_true]
      rw [hB3]
      exact hE'
    · simp only [List.getElem?_toArray, List.getElem?_cons_zero, List.getElem?_cons_succ, Option.some.injEq] at ho
      subst ho
      refine ⟨rfl, fun K hK => ?_⟩
      have q := (hout 1 (by decide)).trans (rfl : _ = (.pointer (some ⟨W.heap.size, 0, none⟩) : Value))
      simp only [Act.eval, Array.getD_eq_getD_getElem?] at q
      unfold Oper.wp
      simp [execOp, q, go_sem, Oper.upon]
      refine hK _ _ (Keeps.refl _ _) ⟨hBx, hBl, v, ?_⟩ rfl
      rw [getD_set_ne (i := 16) (j := 27) false (by decide), getD_set_ne (i := 16) (j := 24) false (by decide), getD_set_ne (i := 16) (j := 19) false (by decide), getD_set_ne (i := 16) (j := 15) false (by decide), getD_set_ne (i := 16) (j := 11) false (by decide), getD_set_ne (i := 16) (j := 7) false (by decide)]
      exact hE
    · simp only [List.getElem?_toArray, List.getElem?_cons_zero, List.getElem?_cons_succ, Option.some.injEq] at ho
      subst ho
      refine ⟨rfl, fun K hK => ?_⟩
      have d16 := hdep ⟨16, .data⟩ (by simp) rfl
      have e16 := hev 16 20 rfl d16
      rw [hT 16 d16] at e16
      have hc := hBx.cell 5
      simp only [List.getElem?_toArray, List.getElem?_cons_zero, List.getElem?_cons_succ] at hc
      simp only [Act.eval, Array.getD_eq_getD_getElem?] at e16
      unfold Oper.wp
      simp [execOp, e16, hc, go_sem, Oper.upon]
      refine hK _ _ (Keeps.refl _ _) ⟨hBx, hBl, v, ?_⟩ rfl
      rw [getD_set_ne (i := 17) (j := 27) false (by decide), getD_set_ne (i := 17) (j := 24) false (by decide), getD_set_ne (i := 17) (j := 19) false (by decide), getD_set_ne (i := 17) (j := 15) false (by decide), getD_set_ne (i := 17) (j := 11) false (by decide), getD_set_ne (i := 17) (j := 7) false (by decide)]
      exact hE
    · simp only [List.getElem?_toArray, List.getElem?_cons_zero, List.getElem?_cons_succ, Option.some.injEq] at ho
      subst ho
      refine ⟨rfl, fun K hK => ?_⟩
      have d17 := hdep ⟨17, .data⟩ (by simp) rfl
      have e17 := hev 17 21 rfl d17
      rw [hT 17 d17] at e17
      simp only [Act.eval, Array.getD_eq_getD_getElem?] at e17
      unfold Oper.wp
      simp [execOp, e17, go_sem, Oper.upon]
      have hne : w.heap.size ≠ W.heap.size + 1 := by have := hE.blk.lt; omega
      refine hK _ _ (Keeps.alloc _ _ _) ⟨hBx.alloc _, hBl.alloc hBl.size _, v, ?_⟩ ⟨w.heap.size, rfl, hne, Blk.new _ _ _⟩
      rw [getD_set_ne (i := 18) (j := 27) false (by decide), getD_set_ne (i := 18) (j := 24) false (by decide), getD_set_ne (i := 18) (j := 19) false (by decide), getD_set_ne (i := 18) (j := 15) false (by decide), getD_set_ne (i := 18) (j := 11) false (by decide), getD_set_ne (i := 18) (j := 7) false (by decide)]
      exact ⟨hE.blk.alloc _, hE.own.alloc _, Nat.le_trans hE.le (by simp)⟩
    · simp only [List.getElem?_toArray, List.getElem?_cons_zero, List.getElem?_cons_succ, Option.some.injEq] at ho
      subst ho
      refine ⟨rfl, fun K hK => ?_⟩
      have d18 := hdep ⟨18, .data⟩ (by simp) rfl
      have e18 := hev 18 22 rfl d18
      have t := hT 18 d18
      have d15 := hdep ⟨15, .data⟩ (by simp) rfl
      have e15 := hev 15 19 rfl d15
      have q := e15
      rw [hT 15 d15] at q
      have n19 := hl
      have n24 : listed.getD 24 false = false := by
        cases h : listed.getD 24 false
        · rfl
        · exact absurd (hcl 24 _ rfl h ⟨19, .data⟩ (by simp) rfl) (by rw [n19]; decide)
      have n27 : listed.getD 27 false = false := by
        cases h : listed.getD 27 false
        · rfl
        · exact absurd (hcl 27 _ rfl h ⟨24, .data⟩ (by simp) rfl) (by rw [n24]; decide)
      simp only [n19, n24, n27, d15, Bool.false_eq_true, if_false, if_true] at hE
      have HU := Lib.hid (enc_I [size] (by simp; omega) (W.heap.size + 2) (W.heap.size + 1) _ B3 (by simp <;> omega) _ w hE (t.sl rfl (by omega)) (t.apart (by decide)))
      simp only [Act.eval, Array.getD_eq_getD_getElem?] at q e18
      unfold Oper.wp
      simp [execOp, q, e18, go_sem, Oper.upon]
      refine HU.out.mono ?_
      rintro e w' ⟨rfl, v', hE', hO'⟩
      refine hK _ _ (Keeps.enc hO') ⟨hBx.keep hO' (not_encS' hBx (by omega) (by decide)), only_belowB hBl hO' (by omega) (by omega) (Nat.le_refl _), v', ?_⟩ rfl
      simp only [getD_set_ne (i := 19) (j := 27) false (by decide), n27, getD_set_ne (i := 19) (j := 24) false (by decide), n24, Inv.getD_set_self (i := 19) (l := listed) (by omega), Bool.false_eq_true, if_false, if_true]
      rw [hB4]
      exact hE'
    · simp only [List.getElem?_toArray, List.getElem?_cons_zero, List.getElem?_cons_succ, Option.some.injEq] at ho
      subst ho
      refine ⟨rfl, fun K hK => ?_⟩
      have q := (hout 1 (by decide)).trans (rfl : _ = (.pointer (some ⟨W.heap.size, 0, none⟩) : Value))
      simp only [Act.eval, Array.getD_eq_getD_getElem?] at q
      unfold Oper.wp
      simp [execOp, q, go_sem, Oper.upon]
      refine hK _ _ (Keeps.refl _ _) ⟨hBx, hBl, v, ?_⟩ rfl
      rw [getD_set_ne (i := 20) (j := 27) false (by decide), getD_set_ne (i := 20) (j := 24) false (by decide), getD_set_ne (i := 20) (j := 19) false (by decide), getD_set_ne (i := 20) (j := 15) false (by decide), getD_set_ne (i := 20) (j := 11) false (by decide), getD_set_ne (i := 20) (j := 7) false (by decide)]
      exact hE
    · simp only [List.getElem?_toArray, List.getElem?_cons_zero, List.getElem?_cons_succ, Option.some.injEq] at ho
      subst ho
      refine ⟨rfl, fun K hK => ?_⟩
      have d20 := hdep ⟨20, .data⟩ (by simp) rfl
      have e20 := hev 20 24 rfl d20
      rw [hT 20 d20] at e20
      have hc := hBx.cell 6
      simp only [List.getElem?_toArray, List.getElem?_cons_zero, List.getElem?_cons_succ] at hc
      simp only [Act.eval, Array.getD_eq_getD_getElem?] at e20
      unfold Oper.wp
      simp [execOp, e20, hc, go_sem, Oper.upon]
      refine hK _ _ (Keeps.refl _ _) ⟨hBx, hBl, v, ?_⟩ rfl
      rw [getD_set_ne (i := 21) (j := 27) false (by decide), getD_set_ne (i := 21) (j := 24) false (by decide), getD_set_ne (i := 21) (j := 19) false (by decide), getD_set_ne (i := 21) (j := 15) false (by decide), getD_set_ne (i := 21) (j := 11) false (by decide), getD_set_ne (i := 21) (j := 7) false (by decide)]
      exact hE
    · simp only [List.getElem?_toArray, List.getElem?_cons_zero, List.getElem?_cons_succ, Option.some.injEq] at ho
      subst ho
      refine ⟨rfl, fun K hK => ?_⟩
      have d21 := hdep ⟨21, .data⟩ (by simp) rfl
      have e21 := hev 21 25 rfl d21
      rw [hT 21 d21] at e21
      simp only [Act.eval, Array.getD_eq_getD_getElem?] at e21
      unfold Oper.wp
      simp [execOp, e21, hwr, go_sem, Oper.upon]
      refine hK _ _ (Keeps.refl _ _) ⟨hBx, hBl, v, ?_⟩ rfl
      rw [getD_set_ne (i := 22) (j := 27) false (by decide), getD_set_ne (i := 22) (j := 24) false (by decide), getD_set_ne (i := 22) (j := 19) false (by decide), getD_set_ne (i := 22) (j := 15) false (by decide), getD_set_ne (i := 22) (j := 11) false (by decide), getD_set_ne (i := 22) (j := 7) false (by decide)]
      exact hE
    · simp only [List.getElem?_toArray, List.getElem?_cons_zero, List.getElem?_cons_succ, Option.some.injEq] at ho
      subst ho
      refine ⟨rfl, fun K hK => ?_⟩
      have d22 := hdep ⟨22, .data⟩ (by simp) rfl
      have e22 := hev 22 26 rfl d22
      rw [hT 22 d22] at e22
      simp only [Act.eval, Array.getD_eq_getD_getElem?] at e22
      unfold Oper.wp
      simp [execOp, e22, go_sem, Oper.upon]
      have hne : w.heap.size ≠ W.heap.size + 1 := by have := hE.blk.lt; omega
      refine hK _ _ (Keeps.alloc _ _ _) ⟨hBx.alloc _, hBl.alloc hBl.size _, v, ?_⟩ ⟨w.heap.size, rfl, hne, Blk.new _ _ _⟩
      rw [getD_set_ne (i := 23) (j := 27) false (by decide), getD_set_ne (i := 23) (j := 24) false (by decide), getD_set_ne (i := 23) (j := 19) false (by decide), getD_set_ne (i := 23) (j := 15) false (by decide), getD_set_ne (i := 23) (j := 11) false (by decide), getD_set_ne (i := 23) (j := 7) false (by decide)]
      exact ⟨hE.blk.alloc _, hE.own.alloc _, Nat.le_trans hE.le (by simp)⟩
    · simp only [List.getElem?_toArray, List.getElem?_cons_zero, List.getElem?_cons_succ, Option.some.injEq] at ho
      subst ho
      refine ⟨rfl, fun K hK => ?_⟩
      have d23 := hdep ⟨23, .data⟩ (by simp) rfl
      have e23 := hev 23 27 rfl d23
      have t := hT 23 d23
      have d19 := hdep ⟨19, .data⟩ (by simp) rfl
      have e19 := hev 19 23 rfl d19
      have q := e19
      rw [hT 19 d19] at q
      have n24 := hl
      have n27 : listed.getD 27 false = false := by
        cases h : listed.getD 27 false
        · rfl
        · exact absurd (hcl 27 _ rfl h ⟨24, .data⟩ (by simp) rfl) (by rw [n24]; decide)
      simp only [n24, n27, d19, Bool.false_eq_true, if_false, if_true] at hE
      have HU := Lib.hid (enc_U [sum] (by simp; omega) (W.heap.size + 2) (W.heap.size + 1) _ B4 (by simp <;> omega) _ w hE (t.sl rfl (by omega)) (t.apart (by decide)))
      simp only [Act.eval, Array.getD_eq_getD_getElem?] at q e23
      unfold Oper.wp
      simp [execOp, q, e23, go_sem, Oper.upon]
      refine HU.out.mono ?_
      rintro e w' ⟨rfl, v', hE', hO'⟩
      refine hK _ _ (Keeps.enc hO') ⟨hBx.keep hO' (not_encS' hBx (by omega) (by decide)), only_belowB hBl hO' (by omega) (by omega) (Nat.le_refl _), v', ?_⟩ rfl
      simp only [getD_set_ne (i := 24) (j := 27) false (by decide), n27, Inv.getD_set_self (i := 24) (l := listed) (by omega), Bool.false_eq_true, if_false, if_true]
      rw [hB5]
      exact hE'
    · simp only [List.getElem?_toArray, List.getElem?_cons_zero, List.getElem?_cons_succ, Option.some.injEq] at ho
      subst ho
      refine ⟨rfl, fun K hK => ?_⟩
      have q := (hout 1 (by decide)).trans (rfl : _ = (.pointer (some ⟨W.heap.size, 0, none⟩) : Value))
      simp only [Act.eval, Array.getD_eq_getD_getElem?] at q
      unfold Oper.wp
      simp [execOp, q, go_sem, Oper.upon]
      refine hK _ _ (Keeps.refl _ _) ⟨hBx, hBl, v, ?_⟩ rfl
      rw [getD_set_ne (i := 25) (j := 27) false (by decide), getD_set_ne (i := 25) (j := 24) false (by decide), getD_set_ne (i := 25) (j := 19) false (by decide), getD_set_ne (i := 25) (j := 15) false (by decide), getD_set_ne (i := 25) (j := 11) false (by decide), getD_set_ne (i := 25) (j := 7) false (by decide)]
      exact hE
    · simp only [List.getElem?_toArray, List.getElem?_cons_zero, List.getElem?_cons_succ, Option.some.injEq] at ho
      subst ho
      refine ⟨rfl, fun K hK => ?_⟩
      have d25 := hdep ⟨25, .data⟩ (by simp) rfl
      have e25 := hev 25 29 rfl d25
      rw [hT 25 d25] at e25
      have hc := hBx.cell 7
      simp only [List.getElem?_toArray, List.getElem?_cons_zero, List.getElem?_cons_succ] at hc
      simp only [Act.eval, Array.getD_eq_getD_getElem?] at e25
      unfold Oper.wp
      simp [execOp, e25, hc, go_sem, Oper.upon]
      refine hK _ _ (Keeps.refl _ _) ⟨hBx, hBl, v, ?_⟩ rfl
      rw [getD_set_ne (i := 26) (j := 27) false (by decide), getD_set_ne (i := 26) (j := 24) false (by decide), getD_set_ne (i := 26) (j := 19) false (by decide), getD_set_ne (i := 26) (j := 15) false (by decide), getD_set_ne (i := 26) (j := 11) false (by decide), getD_set_ne (i := 26) (j := 7) false (by decide)]
      exact hE
    · simp only [List.getElem?_toArray, List.getElem?_cons_zero, List.getElem?_cons_succ, Option.some.injEq] at ho
      subst ho
      refine ⟨rfl, fun K hK => ?_⟩
      have d26 := hdep ⟨26, .data⟩ (by simp) rfl
      have e26 := hev 26 30 rfl d26
      have t := hT 26 d26
      have d24 := hdep ⟨24, .data⟩ (by simp) rfl
      have e24 := hev 24 28 rfl d24
      have q := e24
      rw [hT 24 d24] at q
      have n27 := hl
      simp only [n27, d24, Bool.false_eq_true, if_false, if_true] at hE
      have HU := Lib.hid (enc_List disks o7 (W.heap.size + 2) (W.heap.size + 1) _ B5 (by omega) _ w hE (hs.below hBl) (apart_olds hs (by omega) (by omega)) (by
        intro ao n c e h0 a ha
        obtain ⟨_, _, e2, _, _, _, h5⟩ := hs
        cases e
        cases e2
        obtain ⟨bb, off, e3, hb, _⟩ := h5 h0
        rw [e3] at ha
        cases ha
        have := hBl.size
        simp only
        omega))
      rw [t] at e26
      simp only [Act.eval, Array.getD_eq_getD_getElem?] at q e26
      unfold Oper.wp
      simp [execOp, q, e26, go_sem, Oper.upon]
      refine HU.out.mono ?_
      rintro e w' ⟨rfl, v', hE', hO'⟩
      refine hK _ _ (Keeps.enc hO') ⟨hBx.keep hO' (not_encS' hBx (by omega) (by decide)), only_belowB hBl hO' (by omega) (by omega) (Nat.le_refl _), v', ?_⟩ rfl
      simp only [Inv.getD_set_self (i := 27) (l := listed) (by omega), if_true]
      rw [hB6]
      exact hE'
  · intro listed vs w hall hT hG
    clear hBx hBl hE0
    obtain ⟨hBx, hBl, v, hE⟩ := hG
    rw [if_pos (hall 27 (by omega))] at hE
    have t0 := hT 0 (by omega)
    have t1 := hT 1 (by omega)
    have t2 := hT 2 (by omega)
    have t3 := hT 3 (by omega)
    have t4 := hT 4 (by omega)
    have t5 := hT 5 (by omega)
    have t7 := hT 7 (by omega)
    have t8 := hT 8 (by omega)
    have t9 := hT 9 (by omega)
    have t11 := hT 11 (by omega)
    have t12 := hT 12 (by omega)
    have t13 := hT 13 (by omega)
    have t15 := hT 15 (by omega)
    have t16 := hT 16 (by omega)
    have t17 := hT 17 (by omega)
    have t19 := hT 19 (by omega)
    have t20 := hT 20 (by omega)
    have t21 := hT 21 (by omega)
    have t22 := hT 22 (by omega)
    have t24 := hT 24 (by omega)
    have t25 := hT 25 (by omega)
    have t26 := hT 26 (by omega)
    have t27 := hT 27 (by omega)
    obtain ⟨g6, t6, _, _⟩ := hT 6 (by omega)
    obtain ⟨g10, t10, _, _⟩ := hT 10 (by omega)
    obtain ⟨g14, t14, _, _⟩ := hT 14 (by omega)
    obtain ⟨g18, t18, _, _⟩ := hT 18 (by omega)
    obtain ⟨g23, t23, _, _⟩ := hT 23 (by omega)
    simp only at t0 t1 t2 t3 t4 t5 t6 t7 t8 t9 t10 t11 t12 t13 t14 t15 t16 t17 t18 t19 t20 t21 t22 t23 t24 t25 t26 t27
    generalize hfr : Inv.frA _ _ _ _ = fr
    simp [Inv.frA, Act.put] at hfr
    simp only [t0, t1, t2, t3, t4, t5, t6, t7, t8, t9, t10, t11, t12, t13, t14, t15, t16, t17, t18, t19, t20, t21, t22, t23, t24, t25, t26, t27] at hfr
    subst hfr
    clear t0 t1 t2 t3 t4 t5 t6 t7 t8 t9 t10 t11 t12 t13 t14 t15 t16 t17 t18 t19 t20 t21 t22 t23 t24 t25 t26 t27 hT hall
    have c8 := hBx.cell 8
    have c9 := hBx.cell 9
    have c10 := hBx.cell 10
    simp only [List.getElem?_toArray, List.getElem?_cons_zero, List.getElem?_cons_succ] at c8 c9 c10
    have hz := hBl.size
    have hI := enc_I [pool, vol, blk] (by simp; omega) (W.heap.size + 2) (W.heap.size + 1) _ B6 (by simp; omega) _ (w.alloc (.cells #[.int .i64 (pool), .int .i64 (vol), .int .i64 (blk)] 3)) ⟨hE.blk.alloc _, hE.own.alloc _, Nat.le_trans hE.le (by simp)⟩ (Sl.lit (cs := i64v [pool, vol, blk]) (Blk.new _ _ _) (by show 3 ≤ maxLen; decide) rfl) (apart_lit hE.blk.lt (by decide))
    have HI := Lib.hid hI
    have K1 := Lib.hid hB1'
    have K2 := Lib.hid hB2
    have K3 := Lib.hid hB3
    have K4 := Lib.hid hB4
    have K5 := Lib.hid hB5
    have K6 := Lib.hid hB6
    clear hI hB1' hB2 hB3 hB4 hB5 hB6
    go_wp2_with fail
    refine HI.out.mono ?_; rintro e w1 ⟨rfl, hto⟩
    obtain ⟨v1, hE1, hO1⟩ := hto
    have hB1 : Below W.heap.size W w1 := only_belowB (hBl.alloc hz _) hO1 (by omega) (by omega) (Nat.le_refl _)
    go_wp2_with fail
    refine (enc_Bytes _ _ _ _ _ hE1).mono ?_; rintro e w2 ⟨rfl, rfl⟩
    go_wp2_with fail
    go_ret
    refine ⟨?_, hB1⟩
    have hfin : B6 ++ Wire.nums [pool, vol, blk] = Cmd.bytes ⟨kind, client, seq, name, blob, size, sum, disks, pool, vol, blk⟩ := by
      rw [K6.out, K5.out, K4.out, K3.out, K2.out, K1.out]
      have h2 : (bs name).data.toList = name := rfl
      have h3 : (disks.map Int.toNat).flatMap Wire.num = disks.flatMap (fun n => Wire.num n.toNat) := by rw [List.flatMap_map]
      simp only [Cmd.bytes, Wire.nums, Wire.texts, Wire.text, List.flatMap_cons, List.flatMap_nil, List.append_nil, List.nil_append, List.append_assoc, h2, h3, bs_size, List.length_map]
    rw [← hfin]
    rfl
end Go.Proofs.Ytafdnalanmbcpaa
