/- A volume of reel in plain Lean, and what write, Write and Mark do to it. No condition. -/
import Derived.Test.YtloimgmifalpnaaMeter
import Derived.Deep.RegionLaw
set_option linter.unusedSimpArgs false
set_option linter.unusedVariables false
namespace Go.Proofs.Ytloimgmifalpnaa
open Go.RowKit
set_option maxHeartbeats 2000000
set_option maxRecDepth 100000

/-- a block of a volume -/
structure Bk where
  s : ByteArray
  mark : Bool
  torn : Bool
def Bk.cells (k : Bk) : List Value := [.string k.s, .bool k.mark, .bool k.torn]
def bkv (l : List Bk) : List Value := l.flatMap Bk.cells
theorem bkv_len (l : List Bk) : (bkv l).length = l.length * 3 := by
  induction l with
  | nil => rfl
  | cons a l ih =>
    simp only [bkv, List.flatMap_cons, List.length_append, List.length_cons] at ih ⊢
    rw [ih]
    simp [Bk.cells]
    omega
theorem bkv_get (l : List Bk) (i : Nat) (hi : i < l.length) (j : Nat) (hj : j < 3) : (bkv l)[i * 3 + j]? = (l[i].cells)[j]? := by
  induction l generalizing i with
  | nil => simp at hi
  | cons a l ih =>
    have e : bkv (a :: l) = a.cells ++ bkv l := rfl
    rw [e]
    cases i with
    | zero =>
      rw [List.getElem?_append_left (by simp [Bk.cells]; omega)]
      simp
    | succ i =>
      rw [List.getElem?_append_right (by simp [Bk.cells]; omega)]
      have h := ih i (by simpa using hi)
      have e2 : (i + 1) * 3 + j - a.cells.length = i * 3 + j := by simp [Bk.cells]; omega
      rw [e2, h]
      simp
/-- a volume, plainly -/
structure Vol where
  room : Int
  used : Int
  lost : Bool
  fail : Int
  label : ByteArray
  bl : List Bk
  safe : Nat
  pos : Nat
  prot : Bool
  er : Int
def Vol.cells (x : Vol) (v : Value) : Array Value := #[.int .i64 (x.room), .int .i64 (x.used), .bool x.lost, .int .i64 (x.fail), .string x.label, v, .int .i64 ((x.safe : Nat)), .int .i64 ((x.pos : Nat)), .bool x.prot, .int .i64 (x.er)]
structure Vol.Ok (x : Vol) : Prop where
  used0 : 0 ≤ x.used
  used1 : x.used ≤ x.room
  room1 : x.room ≤ 4611686018427387904
  fail1 : x.fail ≤ 1073741825
  len : x.bl.length ≤ 1000000
  safe : x.safe ≤ x.bl.length
  pos : x.pos ≤ x.bl.length
  size : ∀ k ∈ x.bl, k.s.size ≤ 1000000
  er : 0 ≤ x.er ∧ x.er ≤ 1000000000
/-- Block b is this volume; v is its own row of blocks. -/
structure RelV (w : World) (base b : Nat) (v : Value) (x : Vol) : Prop where
  blk : Blk w b (x.cells v) 39
  own : w.ownsRow base 67 3 v x.bl.length (bkv x.bl)
  le : base ≤ w.heap.size
/-- what a call of a volume may turn -/
def relS (w : World) (base b : Nat) : Nat → Prop := fun k => k = b ∨ (base ≤ k ∧ ∃ cs fr, w.heap[k]? = some (.cells cs 67 fr))
def RelTo (w : World) (base b : Nat) (x : Vol) (w' : World) : Prop := ∃ v', RelV w' base b v' x ∧ Only (relS w base b) w w'
theorem relS_trans {w w' w'' : World} {base b : Nat} (h1 : Only (relS w base b) w w') (h2 : Only (relS w' base b) w' w'') : Only (relS w base b) w w'' := by
  refine h1.trans h2 ?_
  intro x hx h
  by_cases c : relS w base b x
  · exact c
  · rcases h with e | ⟨e, cs, fr, hh⟩
    · exact Or.inl e
    · rw [h1.block x hx c] at hh
      exact Or.inr ⟨e, cs, fr, hh⟩
theorem RelTo.trans {w w' w'' : World} {base b : Nat} {x : Vol} (h1 : Only (relS w base b) w w') (h3 : RelTo w' base b x w'') : RelTo w base b x w'' := by
  obtain ⟨u, he, ho⟩ := h3
  exact ⟨u, he, relS_trans h1 ho⟩
theorem own_relS {w : World} {base b : Nat} {v : Value} {n : Nat} {xs : List Value} (h : w.ownsRow base 67 3 v n xs) : ∀ k, v.ownBlock = some k → relS w base b k := by
  intro k hk
  rcases h.2 with ⟨rfl, _⟩ | ⟨g, cap, cur, rfl, hg, hh, _⟩
  · cases hk
  · injection hk with hk
    subst hk
    exact Or.inr ⟨hg, _, _, hh⟩
theorem RelV.apart {w : World} {base b : Nat} {v : Value} {x : Vol} (h : RelV w base b v x) : v.ownBlock ≠ some b := own_ne h.own h.blk (by decide)
/-- the last block is torn -/
def lastTorn (l : List Bk) : Bool := match l.getLast? with | some k => k.torn | none => false
/-- a block at the end, plainly -/
def Vol.write (x : Vol) (k : Bk) : Int × Vol :=
  if (tryR x.lost x.fail).1 ≠ 0 then ((tryR x.lost x.fail).1, { x with fail := (tryR x.lost x.fail).2 })
  else if x.prot = true then (15, { x with fail := (tryR x.lost x.fail).2 })
  else if x.pos ≠ x.bl.length ∨ lastTorn x.bl = true then (16, { x with fail := (tryR x.lost x.fail).2 })
  else if (takeR x.room x.used (k.s.size + 4)).1 ≠ 0 then ((takeR x.room x.used (k.s.size + 4)).1, { x with fail := (tryR x.lost x.fail).2, used := (takeR x.room x.used (k.s.size + 4)).2 })
  else (0, { x with fail := (tryR x.lost x.fail).2, used := (takeR x.room x.used (k.s.size + 4)).2, bl := x.bl ++ [k], pos := x.pos + 1 })
/-- only the volume's own cells have turned -/
theorem RelV.now {w w' : World} {base b : Nat} {v : Value} {x x' : Vol} (h : RelV w base b v x) (hb : Blk w' b (x'.cells v) 39) (ho : Only (· = b) w w') (he : x'.bl = x.bl) : RelV w' base b v x' ∧ Only (relS w base b) w w' := by
  refine ⟨⟨hb, ?_, Nat.le_trans h.le ho.size⟩, ho.mono (fun k _ e => Or.inl e)⟩
  rw [he]
  exact own_keep h.own ho (fun g hg e => h.apart (by rw [hg, e]))
theorem ei_block : EI Try.prog 37 67 (.agg #[.string ⟨#[]⟩, .bool false, .bool false]) 3 24 := EI.mk' Try.underlying37 (by kernel_rfl) rfl (by decide)

theorem step_appR {P : Program} {w : World} {ops : Array Oper} {o : Oper} {a : Act} {K : Act → World → Prop} {Q : Exit → Act → World → Prop} {E : Prop} {s x : Operand} {t e : TypeId} {z : Value} {sz bytes : Nat}
    (hgd : o.guard = none) (ho : o.op = .call { callee := .builtin .append, args := #[s, x], argTypes := #[t, t] }) (hE : EI P t e z sz bytes)
    {v : Value} {n : Nat} {xs : List Value} (base : Nat) (hs : a.eval s = v) (hown : w.ownsRow base e sz v n xs)
    {g m c : Nat} (news : List Value) (hx : a.eval x = .slice (some ⟨g, 0, none⟩) m c) (hl : news.length = m * sz) {U : TypeId} (hb : Blk w g news.toArray U) (h1 : news.all (·.oneCell') = true)
    (hbytes : (n + m) * bytes ≤ 140737488355328) (hmax : n + m ≤ maxLen) (hbase : base ≤ w.heap.size)
    (h : ∀ v' w', w'.ownsRow base e sz v' (n + m) (xs ++ news) → Only (fun k => v.ownBlock = some k) w w' → K (a.put o.dst v') w') :
    if Region.wanted o (yielded ops a.tmps) = true then Oper.wp P o a w K Q else E := by
  have hw : Region.wanted o (yielded ops a.tmps) = true := by simp [Region.wanted, hgd]
  rw [if_pos hw]
  obtain ⟨ht, hzs, hsz, i, hi, hz, hsize, hby⟩ := hE
  refine wp_append_own w s x t ho base e i z sz bytes ht hi hz hsize hby hzs hsz v n xs hs hown ⟨g, 0, none⟩ m c news hx hl ?_ ?_ hmax hbytes hbase ?_
  · intro j u hu
    rw [Addr.add_lit, hb.cell]
    simpa using hu
  · intro u hu
    exact List.all_eq_true.1 h1 u hu
  · intro v' w' ho' hg _
    exact h v' w' ho' ((Only.refl _ w).grown hg (fun k hk _ => hk))

theorem block_weight (s : ByteArray) (hs : s.size ≤ 1000000) (mk tn : Bool) (w : World) : Calls Try.prog 25 #[.agg #[.string s, .bool mk, .bool tn]] w (Fresh (.int .i64 ((s.size : Int) + 4)) w) := by
  (go_enter Try.func25, Try.ntmps25)
  go_wp2_with fail
  go_ret
  exact ⟨rfl, (by repeat' (first | exact Below.refl _ _ | assumption | refine Below.setCell ?_ (by first | omega | (simp; done) | (simp; omega)) _ | refine Below.alloc ?_ (by first | omega | (simp; done) | (simp; omega)) _ | refine below_drew ?_ _ | apply Below.drew))⟩
theorem lastTorn_get (l : List Bk) (m : Nat) (h : l.length = m + 1) : lastTorn l = (l[m]'(by omega)).torn := by
  unfold lastTorn
  rw [List.getLast?_eq_getElem?]
  simp only [show l.length - 1 = m by omega]
  rw [List.getElem?_eq_getElem (by omega)]
theorem RelV.below {w w' : World} {base b : Nat} {v : Value} {x : Vol} (h : RelV w base b v x) (k : Below w.heap.size w w') : RelV w' base b v x ∧ Only (relS w base b) w w' :=
  ⟨⟨h.blk.keep (only_of_below k (fun _ => False)) (fun e => e), own_keep h.own (only_of_below k (fun _ => False)) (fun _ _ e => e), Nat.le_trans h.le k.size⟩, only_of_below k _⟩
theorem own_last {w : World} {base : Nat} {e : TypeId} {sz n g off cap j : Nat} {xs : List Value} {u : Value} (h : w.ownsRow base e sz (.slice (some ⟨g, off, none⟩) n cap) n xs) (hu : xs[j]? = some u) (hn : 0 < n) : w.cell? ⟨g, off + j, none⟩ = some u := by
  obtain ⟨_, _, ev, _, _, _, hs⟩ := Sl.of_own h
  cases ev
  obtain ⟨g', off', e', _, hc⟩ := hs hn
  cases e'
  exact hc j u hu
theorem own_two {w : World} {base : Nat} {n g off cap m : Nat} {xs : List Value} {u : Value} (h : w.ownsRow base 67 3 (.slice (some ⟨g, off, none⟩) n cap) n xs) (hu : xs[m * 3 + 2]? = some u) (hn : n = m + 1) : w.cell? ⟨g, off + m * 3 + 2, none⟩ = some u ∧ n = m + 1 := by
  have := own_last h hu (by omega)
  rw [← Nat.add_assoc] at this
  exact ⟨this, hn⟩
theorem reel_write (x : Vol) (hx : x.Ok) (k : Bk) (hk : k.s.size ≤ 1000000) (base b : Nat) (v : Value) (w : World) (h : RelV w base b v x) :
    Calls Try.prog 20 #[.pointer (some ⟨b, 0, none⟩), .agg k.cells.toArray] w (fun e w' => e = .returned (.int .i64 ((x.write k).1)) ∧ RelTo w base b (x.write k).2 w') := by
  obtain ⟨s, mk, tn⟩ := k
  obtain ⟨room, used, lost, fail, label, bl, safe, pos, prot, er⟩ := x
  obtain ⟨o1, o2, o3, o4, o5, o6, o7, o8, o9⟩ := hx
  simp only at o1 o2 o3 o4 o5 o6 o7 o8 o9 hk
  obtain ⟨a, f, hq⟩ : ∃ a f, tryR lost fail = (a, f) := ⟨_, _, rfl⟩
  have hblt := h.blk.lt
  have hx1 : Blk (w.alloc (.cells #[.string s, .bool mk, .bool tn] 67)) w.heap.size #[.string s, .bool mk, .bool tn] 67 := Blk.new _ _ _
  have hb1 : Blk (w.alloc (.cells #[.string s, .bool mk, .bool tn] 67)) b #[.int .i64 (room), .int .i64 (used), .bool lost, .int .i64 (fail), .string label, v, .int .i64 ((safe : Nat)), .int .i64 ((pos : Nat)), .bool prot, .int .i64 (er)] 39 := h.blk.alloc _
  have HTr := Lib.hid (try_blk _ 2 _ _ _ lost fail hb1 rfl rfl o4 a f #[.int .i64 (room), .int .i64 (used), .bool lost, .int .i64 (f), .string label, v, .int .i64 ((safe : Nat)), .int .i64 ((pos : Nat)), .bool prot, .int .i64 (er)] hq rfl)
  have hO1 : Only (relS w base b) w (w.alloc (.cells #[.string s, .bool mk, .bool tn] 67)) := (Only.refl _ w).alloc _
  have hR1 : RelV (w.alloc (.cells #[.string s, .bool mk, .bool tn] 67)) base b v ⟨room, used, lost, fail, label, bl, safe, pos, prot, er⟩ := ⟨hb1, h.own.alloc _, Nat.le_trans h.le (by simp)⟩
  unfold Vol.write
  simp only [hq, Bk.cells]
  obtain ⟨Hw, hHw⟩ : ∃ r, r = w.alloc (.cells #[.string s, .bool mk, .bool tn] 67) := ⟨_, rfl⟩
  clear hb1
  by_cases ha : a = 0
  · subst ha
    rw [if_neg (by simp)]
    clear hHw
    obtain ⟨ao, cap, rfl, _, hcm, _, hsl⟩ := Sl.of_own h.own
    unfold maxLen at hcm
    by_cases hp : prot = true
    · rw [if_pos hp]
      subst hp
      clear hsl
      (go_enter Try.func20, Try.ntmps20)
      go_wp2_with fail
      refine HTr.out.mono ?_; rintro e w2 ⟨rfl, hb2, hO2⟩
      obtain ⟨hR2, hS2⟩ := hR1.now (x' := ⟨room, used, lost, f, label, bl, safe, pos, true, er⟩) hb2 hO2 rfl
      have c5 := hb2.cell 5
      have c8 := hb2.cell 8
      simp only [List.getElem?_toArray, List.getElem?_cons_zero, List.getElem?_cons_succ] at c5 c8
      go_wp2_with fail
      go_ret
      exact ⟨rfl, _, hR2, relS_trans hO1 hS2⟩
    · have hpf : prot = false := by cases prot <;> simp_all
      subst hpf
      rw [if_neg (by simp)]
      by_cases hpos : pos = bl.length
      · subst hpos
        by_cases hlt : lastTorn bl = true
        · rw [if_pos (Or.inr hlt)]
          obtain ⟨m, hm⟩ : ∃ m, bl.length = m + 1 := by
            cases bl with
            | nil => simp [lastTorn] at hlt
            | cons x l => exact ⟨l.length, rfl⟩
          have hlg := lastTorn_get bl m hm
          rw [hlt] at hlg
          have hbg := bkv_get bl m (by omega) 2 (by omega)
          simp only [Bk.cells, List.getElem?_cons_succ, List.getElem?_cons_zero, ← hlg] at hbg
          clear hsl
          clear hlg
          have Hm := Lib.hid hm
          clear hm
          (go_enter Try.func20, Try.ntmps20)
          go_wp2_with fail
          refine HTr.out.mono ?_; rintro e w2 ⟨rfl, hb2, hO2⟩
          obtain ⟨hR2, hS2⟩ := hR1.now (x' := ⟨room, used, lost, f, label, bl, safe, bl.length, false, er⟩) hb2 hO2 rfl
          obtain ⟨_, _, ev, _, _, _, hsl2⟩ := Sl.of_own hR2.own
          cases ev
          obtain ⟨g, off, rfl, _, hcell⟩ := hsl2 (by have := Hm.out; simp only; omega)
          have ct := hcell _ _ hbg
          rw [← Nat.add_assoc] at ct
          have c5 := hb2.cell 5
          have c7 := hb2.cell 7
          have c8 := hb2.cell 8
          simp only [List.getElem?_toArray, List.getElem?_cons_zero, List.getElem?_cons_succ] at c5 c7 c8
          have hm2 := Hm.out
          clear hcell hsl2
          go_wp2_with fail
          go_ret
          exact ⟨rfl, _, hR2, relS_trans hO1 hS2⟩
        · rw [if_neg (by simp [hlt])]
          obtain ⟨a2, u2, hq2⟩ : ∃ a2 u2, takeR room used ((s.size : Int) + 4) = (a2, u2) := ⟨_, _, rfl⟩
          rw [hq2]
          simp only
          have HTk : Hid (∀ wx, Blk wx b #[.int .i64 (room), .int .i64 (used), .bool lost, .int .i64 (f), .string label, .slice ao bl.length cap, .int .i64 ((safe : Nat)), .int .i64 ((bl.length : Nat)), .bool false, .int .i64 (er)] 39 → Calls Try.prog 23 #[.pointer (some ⟨b, 0, none⟩), .int .i64 ((s.size : Int) + 4)] wx (Now (.int .i64 (a2)) wx b #[.int .i64 (room), .int .i64 (u2), .bool lost, .int .i64 (f), .string label, .slice ao bl.length cap, .int .i64 ((safe : Nat)), .int .i64 ((bl.length : Nat)), .bool false, .int .i64 (er)] 39)) := Lib.hid (fun wx hbx => take_blk _ 0 _ _ _ room used _ hbx rfl rfl o1 o2 (by omega) a2 u2 _ hq2 rfl)
          have hlf : lastTorn bl = false := by simpa using hlt
          clear hlt hq2
          obtain ⟨res, hres⟩ : ∃ res : Int × Vol, res = (if a2 ≠ 0 then (a2, ⟨room, u2, lost, f, label, bl, safe, bl.length, false, er⟩) else (0, ⟨room, u2, lost, f, label, bl ++ [⟨s, mk, tn⟩], safe, bl.length + 1, false, er⟩)) := ⟨_, rfl⟩
          rw [← hres]
          have Hres := Lib.hid hres
          clear hres
          rcases Nat.eq_zero_or_pos bl.length with hz | hz
          · obtain rfl : bl = [] := List.eq_nil_of_length_eq_zero hz
            clear hsl hlf hz
            (go_enter Try.func20, Try.ntmps20)
            go_wp2_with fail
            refine HTr.out.mono ?_; rintro e w2 ⟨rfl, hb2, hO2⟩
            obtain ⟨hR2, hS2⟩ := hR1.now (x' := ⟨room, used, lost, f, label, [], safe, ([] : List Bk).length, false, er⟩) hb2 hO2 rfl
            have hbx2 := hx1.keep hO2 (by omega)
            have c5 := hb2.cell 5
            have c7 := hb2.cell 7
            have c8 := hb2.cell 8
            have b0 := hbx2.cell 0
            have b1 := hbx2.cell 1
            have b2 := hbx2.cell 2
            simp only [List.getElem?_toArray, List.getElem?_cons_zero, List.getElem?_cons_succ] at c5 c7 c8 b0 b1 b2
            skip
            go_wp2_with fail
            skip
            go_region_with (first | (go_at_call 25; refine (block_weight s hk mk tn _).mono ?_; rintro e w3 ⟨rfl, hB3⟩) | (go_at_call 23; refine (HTk.out _ (Blk.keep (w := w2.drew) hb2 (only_of_below hB3 (fun _ => False)) (fun e => e))).mono ?_; rintro e w4 ⟨rfl, hb4, hO4⟩))
            obtain ⟨hR3, hS3⟩ := RelV.below (w := w2.drew) (⟨hR2.blk, hR2.own, hR2.le⟩ : RelV w2.drew base b (.slice ao ([] : List Bk).length cap) ⟨room, used, lost, f, label, [], safe, ([] : List Bk).length, false, er⟩) hB3
            obtain ⟨hR4, hS4⟩ := hR3.now (x' := ⟨room, u2, lost, f, label, [], safe, ([] : List Bk).length, false, er⟩) hb4 hO4 rfl
            have hbx3 := Blk.keep (w := w2.drew) hbx2 (only_of_below hB3 (fun _ => False)) (fun e => e)
            have hbx4 := hbx3.keep hO4 (by omega)
            have hSd : Only (relS w base b) w w2.drew := (relS_trans hO1 hS2).drew
            have hS := relS_trans (relS_trans hSd hS3) hS4
            clear c5 c7 c8 b0 b1 b2 hb2 hO2 hbx2 hbx3 hR2 hR3 hB3 hS2 hS3 hS4 hO4 hSd
            by_cases ha2 : a2 = 0
            · subst ha2
              have c5 := hb4.cell 5
              have c7 := hb4.cell 7
              have f5 := hb4.frozen 5
              have b0 := hbx4.cell 0
              have b1 := hbx4.cell 1
              have b2 := hbx4.cell 2
              simp only [List.getElem?_toArray, List.getElem?_cons_zero, List.getElem?_cons_succ] at c5 c7 b0 b1 b2
              have hn1 : (([] : List Bk).length + 1) * 24 ≤ 140737488355328 := by omega
              have hn2 : ([] : List Bk).length + 1 ≤ maxLen := by unfold maxLen; omega
              have hn3 : base ≤ w4.heap.size + 1 := by have := hR4.le; omega
              have hap4 := hR4.apart
              have hblt4 := hb4.lt
              go_wp2_with fail
              go_region_law (refine step_appR rfl rfl ei_block base rfl (World.ownsRow.alloc hR4.own _) [.string s, .bool mk, .bool tn] rfl rfl (Blk.new w4 _ _) rfl hn1 hn2 (by simpa using hn3) ?_; intro v' w5 ho1 hk1; obtain ⟨ao', cap', rfl, _, _, _, _⟩ := Sl.of_own ho1; have hb5 : Blk w5 b #[.int .i64 (room), .int .i64 (u2), .bool lost, .int .i64 (f), .string label, .slice ao ([] : List Bk).length cap, .int .i64 ((safe : Nat)), .int .i64 ((([] : List Bk).length : Nat)), .bool false, .int .i64 (er)] 39 := Blk.keep (w := (w4.alloc (.cells #[.string s, .bool mk, .bool tn] 67)).drew) (hb4.alloc _) hk1 hap4; have d5 := hb5.cell 5; have d7 := hb5.cell 7; have g5 := hb5.frozen 5; have g7 := hb5.frozen 7; simp only [List.getElem?_toArray, List.getElem?_cons_zero, List.getElem?_cons_succ] at d5 d7)
              all_goals
                have hb6 : Blk (w5.setCell ⟨b, 5, none⟩ (.slice ao' (([] : List Bk).length + 1) cap')) b #[.int .i64 (room), .int .i64 (u2), .bool lost, .int .i64 (f), .string label, .slice ao' (([] : List Bk).length + 1) cap', .int .i64 ((safe : Nat)), .int .i64 ((([] : List Bk).length : Nat)), .bool false, .int .i64 (er)] 39 := by simpa using hb5.set 5 (.slice ao' (([] : List Bk).length + 1) cap')
                have hb7 : Blk ((w5.setCell ⟨b, 5, none⟩ (.slice ao' (([] : List Bk).length + 1) cap')).setCell ⟨b, 7, none⟩ (.int .i64 (((([] : List Bk).length + 1 : Nat) : Int)))) b #[.int .i64 (room), .int .i64 (u2), .bool lost, .int .i64 (f), .string label, .slice ao' (([] : List Bk).length + 1) cap', .int .i64 ((safe : Nat)), .int .i64 ((([] : List Bk).length + 1 : Nat)), .bool false, .int .i64 (er)] 39 := by simpa using hb6.set 7 (.int .i64 (((([] : List Bk).length + 1 : Nat) : Int)))
                have hO7 : Only (· = b) w5 ((w5.setCell ⟨b, 5, none⟩ (.slice ao' (([] : List Bk).length + 1) cap')).setCell ⟨b, 7, none⟩ (.int .i64 (((([] : List Bk).length + 1 : Nat) : Int)))) := ((Only.refl (· = b) w5).setCell ⟨b, 5, none⟩ _ (fun _ => rfl)).setCell ⟨b, 7, none⟩ _ (fun _ => rfl)
                have hne5 := own_ne ho1 hb5 (by decide)
                have ho7 := own_keep ho1 hO7 (fun g hg e => hne5 (by rw [hg, e]))
                have hsz5 := hk1.size
                have hS5 : Only (relS w base b) w w5 := relS_trans hS (Only.trans (b := (w4.alloc (.cells #[.string s, .bool mk, .bool tn] 67)).drew) ((Only.refl (relS w4 base b) w4).alloc _).drew hk1 (fun x _ e => own_relS hR4.own x e))
                have hS7 := hS5.trans hO7 (fun x _ e => Or.inl e)
                have hRel : RelTo w base b ⟨room, u2, lost, f, label, [] ++ [⟨s, mk, tn⟩], safe, ([] : List Bk).length + 1, false, er⟩ ((w5.setCell ⟨b, 5, none⟩ (.slice ao' (([] : List Bk).length + 1) cap')).setCell ⟨b, 7, none⟩ (.int .i64 (((([] : List Bk).length + 1 : Nat) : Int)))) := by
                  refine ⟨.slice ao' (([] : List Bk).length + 1) cap', ⟨hb7, ?_, ?_⟩, hS7⟩
                  · have e1 : ([] ++ [(⟨s, mk, tn⟩ : Bk)]).length = ([] : List Bk).length + 1 := by simp
                    have e2 : bkv ([] ++ [(⟨s, mk, tn⟩ : Bk)]) = bkv [] ++ [.string s, .bool mk, .bool tn] := by simp [bkv, Bk.cells]
                    rw [e1, e2]
                    exact ho7
                  · have := hS7.size
                    exact Nat.le_trans h.le this
                have HRel := Lib.hid hRel
                have k7 := hb6.cell 7
                have l7 := hb6.frozen 7
                simp only [List.getElem?_toArray, List.getElem?_cons_zero, List.getElem?_cons_succ] at k7
                try simp only [List.length_nil, Nat.zero_add, Nat.cast_zero] at k7 l7
                have hr := Hres.out
                rw [if_neg (by simp)] at hr
                have Hr := Lib.hid hr
                clear hr hRel hb6 hb7 hO7 ho7 hS7 hS5 ho1 hk1 hb5
                go_wp2_with fail
                go_ret
                rw [Hr.out]
                refine ⟨rfl, ?_⟩
                exact HRel.out
            · have e1 : (a2 == 0) = false := by simpa using ha2
              have e2 : (a2 != 0) = true := by simpa using ha2
              have hr := Hres.out
              rw [if_pos ha2] at hr
              have Hr := Lib.hid hr
              clear hr
              go_wp2_with fail
              go_ret
              rw [Hr.out]
              exact ⟨rfl, _, hR4, hS⟩
          · obtain ⟨m, hm⟩ : ∃ m, bl.length = m + 1 := ⟨bl.length - 1, by omega⟩
            have hlg := lastTorn_get bl m hm
            rw [hlf] at hlg
            have hbg := bkv_get bl m (by omega) 2 (by omega)
            simp only [Bk.cells, List.getElem?_cons_succ, List.getElem?_cons_zero, ← hlg] at hbg
            obtain ⟨g, off, rfl, _, _⟩ := hsl (by omega)
            clear hlg hlf hsl hz
            have Hm := Lib.hid hm
            have Hbg := Lib.hid hbg
            clear hm hbg
            (go_enter Try.func20, Try.ntmps20)
            go_wp2_with fail
            refine HTr.out.mono ?_; rintro e w2 ⟨rfl, hb2, hO2⟩
            obtain ⟨hR2, hS2⟩ := hR1.now (x' := ⟨room, used, lost, f, label, bl, safe, bl.length, false, er⟩) hb2 hO2 rfl
            have hbx2 := hx1.keep hO2 (by omega)
            have c5 := hb2.cell 5
            have c7 := hb2.cell 7
            have c8 := hb2.cell 8
            have b0 := hbx2.cell 0
            have b1 := hbx2.cell 1
            have b2 := hbx2.cell 2
            simp only [List.getElem?_toArray, List.getElem?_cons_zero, List.getElem?_cons_succ] at c5 c7 c8 b0 b1 b2
            (obtain ⟨hct, hm2⟩ := own_two hR2.own Hbg.out Hm.out)
            go_wp2_with fail
            (clear hm2 hct)
            go_region_with (first | (go_at_call 25; refine (block_weight s hk mk tn _).mono ?_; rintro e w3 ⟨rfl, hB3⟩) | (go_at_call 23; refine (HTk.out _ (Blk.keep (w := w2.drew) hb2 (only_of_below hB3 (fun _ => False)) (fun e => e))).mono ?_; rintro e w4 ⟨rfl, hb4, hO4⟩))
            obtain ⟨hR3, hS3⟩ := RelV.below (w := w2.drew) (⟨hR2.blk, hR2.own, hR2.le⟩ : RelV w2.drew base b (.slice (some ⟨g, off, none⟩) bl.length cap) ⟨room, used, lost, f, label, bl, safe, bl.length, false, er⟩) hB3
            obtain ⟨hR4, hS4⟩ := hR3.now (x' := ⟨room, u2, lost, f, label, bl, safe, bl.length, false, er⟩) hb4 hO4 rfl
            have hbx3 := Blk.keep (w := w2.drew) hbx2 (only_of_below hB3 (fun _ => False)) (fun e => e)
            have hbx4 := hbx3.keep hO4 (by omega)
            have hSd : Only (relS w base b) w w2.drew := (relS_trans hO1 hS2).drew
            have hS := relS_trans (relS_trans hSd hS3) hS4
            clear c5 c7 c8 b0 b1 b2 hb2 hO2 hbx2 hbx3 hR2 hR3 hB3 hS2 hS3 hS4 hO4 hSd
            by_cases ha2 : a2 = 0
            · subst ha2
              have c5 := hb4.cell 5
              have c7 := hb4.cell 7
              have f5 := hb4.frozen 5
              have b0 := hbx4.cell 0
              have b1 := hbx4.cell 1
              have b2 := hbx4.cell 2
              simp only [List.getElem?_toArray, List.getElem?_cons_zero, List.getElem?_cons_succ] at c5 c7 b0 b1 b2
              have hn1 : (bl.length + 1) * 24 ≤ 140737488355328 := by omega
              have hn2 : bl.length + 1 ≤ maxLen := by unfold maxLen; omega
              have hn3 : base ≤ w4.heap.size + 1 := by have := hR4.le; omega
              have hap4 := hR4.apart
              have hblt4 := hb4.lt
              go_wp2_with fail
              go_region_law (refine step_appR rfl rfl ei_block base rfl (World.ownsRow.alloc hR4.own _) [.string s, .bool mk, .bool tn] rfl rfl (Blk.new w4 _ _) rfl hn1 hn2 (by simpa using hn3) ?_; intro v' w5 ho1 hk1; obtain ⟨ao', cap', rfl, _, _, _, _⟩ := Sl.of_own ho1; have hb5 : Blk w5 b #[.int .i64 (room), .int .i64 (u2), .bool lost, .int .i64 (f), .string label, .slice (some ⟨g, off, none⟩) bl.length cap, .int .i64 ((safe : Nat)), .int .i64 ((bl.length : Nat)), .bool false, .int .i64 (er)] 39 := Blk.keep (w := (w4.alloc (.cells #[.string s, .bool mk, .bool tn] 67)).drew) (hb4.alloc _) hk1 hap4; have d5 := hb5.cell 5; have d7 := hb5.cell 7; have g5 := hb5.frozen 5; have g7 := hb5.frozen 7; simp only [List.getElem?_toArray, List.getElem?_cons_zero, List.getElem?_cons_succ] at d5 d7)
              all_goals
                have hb6 : Blk (w5.setCell ⟨b, 5, none⟩ (.slice ao' (bl.length + 1) cap')) b #[.int .i64 (room), .int .i64 (u2), .bool lost, .int .i64 (f), .string label, .slice ao' (bl.length + 1) cap', .int .i64 ((safe : Nat)), .int .i64 ((bl.length : Nat)), .bool false, .int .i64 (er)] 39 := by simpa using hb5.set 5 (.slice ao' (bl.length + 1) cap')
                have hb7 : Blk ((w5.setCell ⟨b, 5, none⟩ (.slice ao' (bl.length + 1) cap')).setCell ⟨b, 7, none⟩ (.int .i64 (((bl.length + 1 : Nat) : Int)))) b #[.int .i64 (room), .int .i64 (u2), .bool lost, .int .i64 (f), .string label, .slice ao' (bl.length + 1) cap', .int .i64 ((safe : Nat)), .int .i64 ((bl.length + 1 : Nat)), .bool false, .int .i64 (er)] 39 := by simpa using hb6.set 7 (.int .i64 (((bl.length + 1 : Nat) : Int)))
                have hO7 : Only (· = b) w5 ((w5.setCell ⟨b, 5, none⟩ (.slice ao' (bl.length + 1) cap')).setCell ⟨b, 7, none⟩ (.int .i64 (((bl.length + 1 : Nat) : Int)))) := ((Only.refl (· = b) w5).setCell ⟨b, 5, none⟩ _ (fun _ => rfl)).setCell ⟨b, 7, none⟩ _ (fun _ => rfl)
                have hne5 := own_ne ho1 hb5 (by decide)
                have ho7 := own_keep ho1 hO7 (fun g hg e => hne5 (by rw [hg, e]))
                have hsz5 := hk1.size
                have hS5 : Only (relS w base b) w w5 := relS_trans hS (Only.trans (b := (w4.alloc (.cells #[.string s, .bool mk, .bool tn] 67)).drew) ((Only.refl (relS w4 base b) w4).alloc _).drew hk1 (fun x _ e => own_relS hR4.own x e))
                have hS7 := hS5.trans hO7 (fun x _ e => Or.inl e)
                have hRel : RelTo w base b ⟨room, u2, lost, f, label, bl ++ [⟨s, mk, tn⟩], safe, bl.length + 1, false, er⟩ ((w5.setCell ⟨b, 5, none⟩ (.slice ao' (bl.length + 1) cap')).setCell ⟨b, 7, none⟩ (.int .i64 (((bl.length + 1 : Nat) : Int)))) := by
                  refine ⟨.slice ao' (bl.length + 1) cap', ⟨hb7, ?_, ?_⟩, hS7⟩
                  · have e1 : (bl ++ [(⟨s, mk, tn⟩ : Bk)]).length = bl.length + 1 := by simp
                    have e2 : bkv (bl ++ [(⟨s, mk, tn⟩ : Bk)]) = bkv bl ++ [.string s, .bool mk, .bool tn] := by simp [bkv, Bk.cells]
                    rw [e1, e2]
                    exact ho7
                  · have := hS7.size
                    exact Nat.le_trans h.le this
                have HRel := Lib.hid hRel
                have k7 := hb6.cell 7
                have l7 := hb6.frozen 7
                simp only [List.getElem?_toArray, List.getElem?_cons_zero, List.getElem?_cons_succ] at k7
                try simp only [List.length_nil, Nat.zero_add, Nat.cast_zero] at k7 l7
                have hr := Hres.out
                rw [if_neg (by simp)] at hr
                have Hr := Lib.hid hr
                clear hr hRel hb6 hb7 hO7 ho7 hS7 hS5 ho1 hk1 hb5
                go_wp2_with fail
                go_ret
                rw [Hr.out]
                refine ⟨rfl, ?_⟩
                exact HRel.out
            · have e1 : (a2 == 0) = false := by simpa using ha2
              have e2 : (a2 != 0) = true := by simpa using ha2
              have hr := Hres.out
              rw [if_pos ha2] at hr
              have Hr := Lib.hid hr
              clear hr
              go_wp2_with fail
              go_ret
              rw [Hr.out]
              exact ⟨rfl, _, hR4, hS⟩
      · rw [if_pos (Or.inl hpos)]
        have hpi : ¬ ((pos : Int) = (bl.length : Int)) := by omega
        clear hsl
        (go_enter Try.func20, Try.ntmps20)
        go_wp2_with fail
        refine HTr.out.mono ?_; rintro e w2 ⟨rfl, hb2, hO2⟩
        obtain ⟨hR2, hS2⟩ := hR1.now (x' := ⟨room, used, lost, f, label, bl, safe, pos, false, er⟩) hb2 hO2 rfl
        have c5 := hb2.cell 5
        have c7 := hb2.cell 7
        have c8 := hb2.cell 8
        simp only [List.getElem?_toArray, List.getElem?_cons_zero, List.getElem?_cons_succ] at c5 c7 c8
        have hne : (((pos : Int)) != (bl.length : Int)) = true := by simpa using hpi
        have hne2 : (((pos : Int)) == (bl.length : Int)) = false := by simpa using hpi
        go_wp2_with fail
        go_ret
        exact ⟨rfl, _, hR2, relS_trans hO1 hS2⟩
  · rw [if_pos ha]
    have ha1 : (a == 0) = false := by simpa using ha
    have ha2 : (a != 0) = true := by simpa using ha
    clear hHw
    (go_enter Try.func20, Try.ntmps20)
    go_wp2_with fail
    refine HTr.out.mono ?_; rintro e w2 ⟨rfl, hb2, hO2⟩
    obtain ⟨hR2, hS2⟩ := hR1.now (x' := ⟨room, used, lost, f, label, bl, safe, pos, prot, er⟩) hb2 hO2 rfl
    go_wp2_with fail
    go_ret
    exact ⟨rfl, v, hR2, relS_trans hO1 hS2⟩
end Go.Proofs.Ytloimgmifalpnaa
