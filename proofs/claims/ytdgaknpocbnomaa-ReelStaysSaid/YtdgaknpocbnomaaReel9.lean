/- What Crash of a volume does. No condition. -/
import Derived.Test.YtdgaknpocbnomaaReel8
import Derived.Test.YtdgaknpocbnomaaRegionInv
set_option linter.unusedSimpArgs false
set_option linter.unusedVariables false
namespace Go.Proofs.Ytdgaknpocbnomaa
open Go.RowKit
set_option maxHeartbeats 4000000
set_option maxRecDepth 100000

theorem wp_appS {P : Program} {w : World} {o : Oper} {a : Act} {K : Act → World → Prop} {Q : Exit → Act → World → Prop} {s x : Operand} {t e : TypeId} {z : Value} {sz bytes : Nat}
    (ho : o.op = .call { callee := .builtin .append, args := #[s, x], argTypes := #[t, t] }) (hE : EI P t e z sz bytes)
    {v : Value} {n : Nat} {xs : List Value} (base : Nat) (hs : a.eval s = v) (hown : w.ownsRow base e sz v n xs)
    {v2 : Value} {m : Nat} (news : List Value) (hx : a.eval x = v2) (hsl : Sl w v2 m sz news) (hz : ∀ l c, v2 = .slice none l c → c = 0) (h1 : ∀ u ∈ news, u.oneCell' = true)
    (hbytes : (n + m) * bytes ≤ 140737488355328) (hmax : n + m ≤ maxLen) (hbase : base ≤ w.heap.size)
    (h : ∀ v' w', w'.ownsRow base e sz v' (n + m) (xs ++ news) → Only (fun k => v.ownBlock = some k) w w' → K (a.put o.dst v') w') :
    Oper.wp P o a w K Q := by
  obtain ⟨ht, hzs, hsz, i, hi, hz0, hsize, hby⟩ := hE
  obtain ⟨ao, cap, rfl, _, _, hl, hp⟩ := hsl
  cases ao with
  | none =>
    obtain rfl := hz _ _ rfl
    obtain rfl : m = 0 := by
      by_cases hm : 0 < m
      · obtain ⟨b, off, e, _⟩ := hp hm
        cases e
      · omega
    obtain rfl : news = [] := List.eq_nil_of_length_eq_zero (by simpa using hl)
    have hrun := run_append_owned_none (P := P) (w := w) base t o.type e i sz ht hi v n xs hown
    unfold Oper.wp
    simp [execOp, ho, resolve, invoke, builtin, hs, hx, hrun, Result.andThen]
    exact h v w (by simpa using hown) (Only.refl _ _)
  | some ad =>
    refine wp_append_own w s x t ho base e i z sz bytes ht hi hz0 hsize hby hzs hsz v n xs hs hown ad m cap news hx hl ?_ h1 hmax hbytes hbase ?_
    · intro j u hu
      have hm : 0 < m := by
        have := (List.getElem?_eq_some_iff.1 hu).1
        rcases Nat.eq_zero_or_pos m with e | e
        · subst e; simp at hl; simp [hl] at this
        · exact e
      obtain ⟨b, off, e, _, hc⟩ := hp hm
      injection e with e
      subst e
      rw [Addr.add_lit]
      exact hc j u hu
    · intro v' w' ho' hg _
      exact h v' w' ho' ((Only.refl _ w).grown hg (fun k hk _ => hk))
theorem own_base {w : World} {base base' : Nat} {e : TypeId} {sz n : Nat} {v : Value} {xs : List Value} (h : w.ownsRow base' e sz v n xs) (hb : base ≤ base') : w.ownsRow base e sz v n xs := by
  refine ⟨h.1, ?_⟩
  rcases h.2 with h2 | ⟨g, cap, cur, hv, hg, r⟩
  · exact Or.inl h2
  · exact Or.inr ⟨g, cap, cur, hv, Nat.le_trans hb hg, r⟩
theorem bkv_one (l : List Bk) : ∀ u ∈ bkv l, u.oneCell' = true := by
  intro u hu
  simp only [bkv, List.mem_flatMap, Bk.cells] at hu
  obtain ⟨k, _, hk⟩ := hu
  simp at hk
  rcases hk with rfl | rfl | rfl <;> rfl
theorem bkv_drop (l : List Bk) (m : Nat) : (bkv l).drop (m * 3) = bkv (l.drop m) := by
  induction l generalizing m with
  | nil => simp [bkv]
  | cons a l ih =>
    cases m with
    | zero => simp
    | succ m =>
      have e : bkv (a :: l) = a.cells ++ bkv l := rfl
      rw [e, List.drop_append, List.drop_succ_cons, ← ih m]
      rw [List.drop_of_length_le (by simp [Bk.cells]; omega), List.nil_append]
      congr 1
      simp [Bk.cells]
      omega
theorem bkv_app (a b : List Bk) : bkv (a ++ b) = bkv a ++ bkv b := by simp [bkv]
/-- what is used by these blocks, taken one behind the other -/
def takeAll (room : Int) (l : List Bk) (u : Int) : Int := l.foldl (fun u k => (takeR room u (k.s.size + 4)).2) u
theorem takeR_in (room u n : Int) (h0 : 0 ≤ u) (h1 : u ≤ room) (hn : 0 ≤ n) : 0 ≤ (takeR room u n).2 ∧ (takeR room u n).2 ≤ room := by
  unfold takeR
  rw [if_neg (by omega)]
  split
  · simp only; omega
  · simp only; omega
theorem takeAll_bd (room : Int) (l : List Bk) (u : Int) (h0 : 0 ≤ u) (h1 : u ≤ room) : 0 ≤ takeAll room l u ∧ takeAll room l u ≤ room := by
  induction l generalizing u with
  | nil => exact ⟨h0, h1⟩
  | cons k l ih =>
    have := takeR_in room u (k.s.size + 4) h0 h1 (by omega)
    exact ih _ this.1 this.2
theorem takeAll_snoc (room : Int) (l : List Bk) (k : Bk) (u : Int) : takeAll room (l ++ [k]) u = (takeR room (takeAll room l u) (k.s.size + 4)).2 := by simp [takeAll]
/-- the blocks behind a crash -/
def crashOut (x : Vol) (ch : List Int) : List Bk :=
  match x.bl[x.safe + (pickR ch 0 (((x.bl.length - x.safe : Nat) : Int) + 1)).toNat]? with
  | none => x.bl.take (x.safe + (pickR ch 0 (((x.bl.length - x.safe : Nat) : Int) + 1)).toNat)
  | some k => if k.mark = false ∧ 0 < pickR ch 1 k.s.size then x.bl.take (x.safe + (pickR ch 0 (((x.bl.length - x.safe : Nat) : Int) + 1)).toNat) ++ [⟨k.s.extract 0 (pickR ch 1 k.s.size).toNat, false, true⟩]
    else x.bl.take (x.safe + (pickR ch 0 (((x.bl.length - x.safe : Nat) : Int) + 1)).toNat)
def Vol.crash (x : Vol) (ch : List Int) : Vol := { x with used := takeAll x.room (crashOut x ch) 0, bl := crashOut x ch, safe := (crashOut x ch).length, pos := 0 }
theorem pickR_bd (xs : List Int) (a n : Int) : 0 ≤ pickR xs a n ∧ (1 ≤ n → pickR xs a n < n) ∧ (n < 1 → pickR xs a n = 0) := by
  unfold pickR
  split
  · refine ⟨Int.emod_nonneg _ (by omega), fun h => Int.emod_lt_of_pos _ (by omega), fun h => by omega⟩
  · exact ⟨Int.le_refl _, fun h => by omega, fun _ => rfl⟩
theorem crashOut_ok (x : Vol) (ch : List Int) (h : ∀ k ∈ x.bl, k.s.size ≤ 1000000) (hl : x.bl.length ≤ 1000000) : (∀ k ∈ crashOut x ch, k.s.size ≤ 1000000) ∧ (crashOut x ch).length ≤ 1000001 := by
  have h1 : ∀ m, ∀ k ∈ x.bl.take m, k.s.size ≤ 1000000 := fun m k hk => h k (List.mem_of_mem_take hk)
  have h2 : ∀ m, (x.bl.take m).length ≤ 1000000 := fun m => by rw [List.length_take]; omega
  unfold crashOut
  split
  · exact ⟨h1 _, by have := h2 (x.safe + (pickR ch 0 (((x.bl.length - x.safe : Nat) : Int) + 1)).toNat); omega⟩
  · rename_i k hk
    have hks := h k (List.mem_of_getElem? hk)
    split
    · refine ⟨fun y hy => ?_, ?_⟩
      · rcases List.mem_append.1 hy with hy | hy
        · exact h1 _ y hy
        · simp only [List.mem_singleton] at hy
          subst hy
          simp only [ByteArray.size_extract]
          omega
      · rw [List.length_append]
        have := h2 (x.safe + (pickR ch 0 (((x.bl.length - x.safe : Nat) : Int) + 1)).toNat)
        simp only [List.length_singleton]
        omega
    · exact ⟨h1 _, by have := h2 (x.safe + (pickR ch 0 (((x.bl.length - x.safe : Nat) : Int) + 1)).toNat); omega⟩
theorem reel_Crash (x : Vol) (hx : x.Ok) (ch : List Int) (hwf : ∀ c ∈ ch, (Lit.int .i64 c).wf = true) (vch : Value) (len : Nat) (base b : Nat) (v : Value) (w : World) (hch : Sl w vch len 1 (ch.map (.int .i64))) (h : RelV w base b v x) (hbb : b < base) :
    Calls Try.prog 20 #[.pointer (some ⟨b, 0, none⟩), vch] w (fun e w' => e = .returned (.tuple #[]) ∧ RelTo w base b (x.crash ch) w') := by
  obtain ⟨res, hres⟩ : ∃ r, r = x.crash ch := ⟨_, rfl⟩
  rw [← hres]
  unfold Vol.crash at hres
  have hbd1 := pickR_bd ch 0 (((x.bl.length - x.safe : Nat) : Int) + 1)
  have Hout := Lib.hid (show crashOut x ch = _ from rfl)
  obtain ⟨out, hout⟩ : ∃ o, o = crashOut x ch := ⟨_, rfl⟩
  have HO := Lib.hid hout
  rw [← hout] at hres
  clear hout Hout
  have HOf : Hid (out = crashOut x ch) := HO
  unfold crashOut at HO
  obtain ⟨room, used, lost, fail, label, bl, safe, pos, prot, er⟩ := x
  obtain ⟨o1, o2, o3, o4, o5, o6, o7, o8, o9⟩ := hx
  simp only at o1 o2 o3 o4 o5 o6 o7 o8 o9 hres HO hbd1
  have Hres := Lib.hid hres
  clear hres
  have HPk := Lib.hid (fun w' (hB : Below w.heap.size w w') => meter_pick vch len ch 0 (((bl.length - safe : Nat) : Int) + 1) w' (hch.below hB) hwf (by omega))
  have HPn : Hid (∀ (w' : World) (n : Int), Below w.heap.size w w' → n ≤ 9223372036854775807 → Calls Try.prog 34 #[vch, .int .i64 (1), .int .i64 (n)] w' (Drew (.int .i64 (pickR ch 1 n)) w')) := Lib.hid (fun w' n hB hn => meter_pick vch len ch 1 n w' (hch.below hB) hwf hn)
  obtain ⟨pk, hpk⟩ : ∃ p : Nat, pickR ch 0 (((bl.length - safe : Nat) : Int) + 1) = (p : Int) := Int.eq_ofNat_of_zero_le hbd1.1
  have hpk2 : safe + pk ≤ bl.length := by have := hbd1.2.1 (by omega); omega
  simp only [hpk] at HO
  rw [hpk] at HPk
  rw [show ((pk : Int)).toNat = pk from rfl] at HO
  clear hbd1 hpk
  obtain ⟨ach, cch, rfl, hch1, hch2, _, _⟩ := hch
  have hb1 : Blk w b #[.int .i64 (room), .int .i64 (used), .bool lost, .int .i64 (fail), .string label, v, .int .i64 ((safe : Nat)), .int .i64 ((pos : Nat)), .bool prot, .int .i64 (er)] 36 := h.blk
  have c3 := hb1.cell 5
  have c4 := hb1.cell 6
  simp only [List.getElem?_toArray, List.getElem?_cons_zero, List.getElem?_cons_succ] at c3 c4
  have hsl := Sl.of_own h.own
  obtain ⟨ao, cap, rfl, hcl, hcm, _, hsl⟩ := hsl
  unfold maxLen at hcm
  (go_enter Try.func20, Try.ntmps20)
  go_wp2_with fail
  go_quiet (fail)
  obtain ⟨al, hal⟩ : ∃ al, al = (if cap = safe then ao else Option.map (fun x => x.add (safe * 3)) ao) := ⟨_, rfl⟩
  rw [← hal]
  have HL : Hid (0 < bl.length - safe → ∃ g off, al = some ⟨g, off, none⟩ ∧ ∀ j u, (bkv (bl.drop safe))[j]? = some u → w.cell? ⟨g, off + j, none⟩ = some u) := by
    refine Lib.hid (fun hp => ?_)
    obtain ⟨g, off, e, _, hc⟩ := hsl (by omega)
    rw [if_neg (by omega), e] at hal
    refine ⟨g, off + safe * 3, by rw [hal]; simp [Addr.add_lit], fun j u hu => ?_⟩
    rw [← bkv_drop, List.getElem?_drop] at hu
    have := hc _ u hu
    rwa [← Nat.add_assoc] at this
  clear hal
  go_wp2_with fail
  refine (HPk.out _ (by exact below_drew (Below.refl _ _) _)).mono ?_; rintro e w2 ⟨k2, rfl, rfl⟩
  rw [World.drewN_drewN]
  obtain ⟨wa, hwa⟩ : ∃ wa, wa = w.drewN (nq + k2) := ⟨_, rfl⟩
  rw [← hwa]
  have hRa : RelV wa base b (.slice ao bl.length cap) ⟨room, used, lost, fail, label, bl, safe, pos, prot, er⟩ := by rw [hwa]; exact ⟨h.blk, h.own, h.le⟩
  have hBa : Below w.heap.size w wa := by rw [hwa]; exact below_drew (Below.refl _ _) _
  have c3a := hRa.blk.cell 5
  have c4a := hRa.blk.cell 6
  simp only [Vol.cells, List.getElem?_toArray, List.getElem?_cons_zero, List.getElem?_cons_succ] at c3a c4a
  have HRa := Lib.hid hRa
  have hbla := hRa.blk.lt
  have hSl : Hid (Sl wa (.slice ao (safe + pk) cap) (safe + pk) 3 (bkv (bl.take (safe + pk)))) := by
    have := Sl.of_own (own_cut HRa.out.own (m := safe + pk) hpk2)
    rw [bkv_take] at this
    exact Lib.hid this
  have Hnil : Hid (∀ l c, (Value.slice ao (safe + pk) cap) = .slice none l c → c = 0) := by
    refine Lib.hid (fun l c e => ?_)
    have e1 : ao = none := by injection e
    have e2 : cap = c := by injection e
    rcases HRa.out.own.2 with ⟨e, _⟩ | ⟨g, _, _, e, _⟩
    · have e3 : cap = 0 := by injection e
      omega
    · rw [e1] at e
      cases e
  have hW1 : w.heap.size ≤ wa.heap.size := hBa.size
  clear hwa hRa c3 c4 hb1
  go_wp2_with fail
  refine Inv.region_inv2 (n := 14) (by kernel_rfl) [some 24, some 25, some 26, some 27, some 28, some 29, some 30, some 31, some 32, some 33, some 34, some 35, some 36, some 6] rfl (by kernel_rfl) (by kernel_rfl) rfl (by rfl)
    (fun d v w => match d with
      | 0 => v = Value.slice (some ⟨wa.heap.size, 0, none⟩) 0 0
      | 1 => v = .pointer (some ⟨b, 0, none⟩)
      | 2 => v = .pointer (some ⟨b, 0, none⟩)
      | 3 => v = .pointer (some ⟨b, 5, none⟩)
      | 4 => v = Value.slice ao bl.length cap
      | 5 => v = .pointer (some ⟨b, 0, none⟩)
      | 6 => v = .pointer (some ⟨b, 0, none⟩)
      | 7 => v = .pointer (some ⟨b, 6, none⟩)
      | 8 => v = .int .i64 ((safe : Int))
      | 9 => v = .int .i64 ((pk : Int))
      | 10 => v = .int .i64 ((safe : Int) + (pk : Int))
      | 11 => v = Value.slice ao (safe + pk) cap
      | 12 => w.ownsRow wa.heap.size 72 3 v (bl.take (safe + pk)).length (bkv (bl.take (safe + pk)))
      | 13 => w.ownsRow wa.heap.size 72 3 v (bl.take (safe + pk)).length (bkv (bl.take (safe + pk)))
      | _ => True) (fun listed w => Below wa.heap.size wa w ∧ (listed.getD 0 false = false → w.heap.size = wa.heap.size) ∧ (listed.getD 12 false = false → listed.getD 0 false = true → w.ownsRow wa.heap.size 72 3 (.slice (some ⟨wa.heap.size, 0, none⟩) 0 0) 0 [])) ?_ ?_ ?_
  · exact ⟨below_drew (Below.refl _ _) 1, fun _ => rfl, fun _ h => by rw [Inv.getD_rep] at h; cases h⟩
  · intro i o listed a vs w ho hls hl hdep hcl hout hev hT hG
    have hi : i < 14 := (Array.getElem?_eq_some_iff.1 ho).1
    have iN : i = 0 ∨ i = 1 ∨ i = 2 ∨ i = 3 ∨ i = 4 ∨ i = 5 ∨ i = 6 ∨ i = 7 ∨ i = 8 ∨ i = 9 ∨ i = 10 ∨ i = 11 ∨ i = 12 ∨ i = 13 := by omega
    rcases iN with rfl | rfl | rfl | rfl | rfl | rfl | rfl | rfl | rfl | rfl | rfl | rfl | rfl | rfl
    · simp only [List.getElem?_toArray, List.getElem?_cons_zero, List.getElem?_cons_succ, Option.some.injEq] at ho
      subst ho
      refine ⟨rfl, fun K hK => ?_⟩
      have c5 := (hG.1.cell (p := ⟨b, 5, none⟩) hbla).trans c3a
      have c6 := (hG.1.cell (p := ⟨b, 6, none⟩) hbla).trans c4a
      unfold Oper.wp
      simp [execOp, go_sem, Oper.upon]
      have hsz := hG.2.1 hl
      have n12 : listed.getD 12 false = false := by
        cases h : listed.getD 12 false
        · rfl
        · exact absurd (hcl 12 _ rfl h ⟨0, .data⟩ (by simp) rfl) (by rw [hl]; decide)
      have hal := hG.1.alloc (by first | omega | simp) (.cells #[] 72)
      have hlit := World.ownsRow_lit (base := wa.heap.size) (e := 72) (size := 3) w #[] 0 (by omega) (by decide) rfl
      rw [hsz] at hlit ⊢
      have hk : ∀ j, listed.getD j false = true → (fun d v w => match d with
          | 0 => v = Value.slice (some ⟨wa.heap.size, 0, none⟩) 0 0
          | 1 => v = .pointer (some ⟨b, 0, none⟩)
          | 2 => v = .pointer (some ⟨b, 0, none⟩)
          | 3 => v = .pointer (some ⟨b, 5, none⟩)
          | 4 => v = Value.slice ao bl.length cap
          | 5 => v = .pointer (some ⟨b, 0, none⟩)
          | 6 => v = .pointer (some ⟨b, 0, none⟩)
          | 7 => v = .pointer (some ⟨b, 6, none⟩)
          | 8 => v = .int .i64 ((safe : Int))
          | 9 => v = .int .i64 ((pk : Int))
          | 10 => v = .int .i64 ((safe : Int) + (pk : Int))
          | 11 => v = Value.slice ao (safe + pk) cap
          | 12 => w.ownsRow wa.heap.size 72 3 v (bl.take (safe + pk)).length (bkv (bl.take (safe + pk)))
          | 13 => w.ownsRow wa.heap.size 72 3 v (bl.take (safe + pk)).length (bkv (bl.take (safe + pk)))
          | _ => True : Nat → Value → World → Prop) j (vs j) ((w.alloc (.cells #[] 72))) := by
        intro j hj
        have h := hT j hj
        match j, hj, h with
        | 0, hj, h => exact absurd hj (by rw [hl]; decide)
        | 1, hj, h => exact h
        | 2, hj, h => exact h
        | 3, hj, h => exact h
        | 4, hj, h => exact h
        | 5, hj, h => exact h
        | 6, hj, h => exact h
        | 7, hj, h => exact h
        | 8, hj, h => exact h
        | 9, hj, h => exact h
        | 10, hj, h => exact h
        | 11, hj, h => exact h
        | 12, hj, h => (simp only at h; exact h.alloc _)
        | 13, hj, h => (simp only at h; first | exact h.alloc _ | exact absurd (hcl 13 _ rfl hj ⟨12, .data⟩ (by simp) rfl) (by rw [hl]; decide))
        | d + 14, hj, h => exact trivial
      refine hK _ _ hk ⟨hal, ?_, ?_⟩ rfl
      · rw [Inv.getD_set_self (by omega)]; exact fun h => by cases h
      · exact fun _ _ => hlit
    · simp only [List.getElem?_toArray, List.getElem?_cons_zero, List.getElem?_cons_succ, Option.some.injEq] at ho
      subst ho
      refine ⟨rfl, fun K hK => ?_⟩
      have q0 := (hout 0 (by decide)).trans (rfl : _ = (.pointer (some ⟨b, 0, none⟩) : Value))
      have c5 := (hG.1.cell (p := ⟨b, 5, none⟩) hbla).trans c3a
      have c6 := (hG.1.cell (p := ⟨b, 6, none⟩) hbla).trans c4a
      try simp only [Act.eval, Array.getD_eq_getD_getElem?] at q0
      unfold Oper.wp
      simp [execOp, q0, go_sem, Oper.upon]
      exact hK _ _ hT (by simpa only [getD_set_ne (i := 1) (j := 0) false (by decide), getD_set_ne (i := 1) (j := 12) false (by decide)] using hG) rfl
    · simp only [List.getElem?_toArray, List.getElem?_cons_zero, List.getElem?_cons_succ, Option.some.injEq] at ho
      subst ho
      refine ⟨rfl, fun K hK => ?_⟩
      have dp1 := hdep ⟨1, .data⟩ (by simp) rfl
      have ep1 := hev 1 25 rfl dp1
      rw [hT 1 dp1] at ep1
      have c5 := (hG.1.cell (p := ⟨b, 5, none⟩) hbla).trans c3a
      have c6 := (hG.1.cell (p := ⟨b, 6, none⟩) hbla).trans c4a
      try simp only [Act.eval, Array.getD_eq_getD_getElem?] at ep1
      unfold Oper.wp
      simp [execOp, ep1, go_sem, Oper.upon]
      exact hK _ _ hT (by simpa only [getD_set_ne (i := 2) (j := 0) false (by decide), getD_set_ne (i := 2) (j := 12) false (by decide)] using hG) rfl
    · simp only [List.getElem?_toArray, List.getElem?_cons_zero, List.getElem?_cons_succ, Option.some.injEq] at ho
      subst ho
      refine ⟨rfl, fun K hK => ?_⟩
      have dp2 := hdep ⟨2, .data⟩ (by simp) rfl
      have ep2 := hev 2 26 rfl dp2
      rw [hT 2 dp2] at ep2
      have c5 := (hG.1.cell (p := ⟨b, 5, none⟩) hbla).trans c3a
      have c6 := (hG.1.cell (p := ⟨b, 6, none⟩) hbla).trans c4a
      try simp only [Act.eval, Array.getD_eq_getD_getElem?] at ep2
      unfold Oper.wp
      simp [execOp, ep2, go_sem, Oper.upon]
      exact hK _ _ hT (by simpa only [getD_set_ne (i := 3) (j := 0) false (by decide), getD_set_ne (i := 3) (j := 12) false (by decide)] using hG) rfl
    · simp only [List.getElem?_toArray, List.getElem?_cons_zero, List.getElem?_cons_succ, Option.some.injEq] at ho
      subst ho
      refine ⟨rfl, fun K hK => ?_⟩
      have dp3 := hdep ⟨3, .data⟩ (by simp) rfl
      have ep3 := hev 3 27 rfl dp3
      rw [hT 3 dp3] at ep3
      have c5 := (hG.1.cell (p := ⟨b, 5, none⟩) hbla).trans c3a
      have c6 := (hG.1.cell (p := ⟨b, 6, none⟩) hbla).trans c4a
      try simp only [Act.eval, Array.getD_eq_getD_getElem?] at ep3
      unfold Oper.wp
      simp [execOp, ep3, c5, go_sem, Oper.upon]
      exact hK _ _ hT (by simpa only [getD_set_ne (i := 4) (j := 0) false (by decide), getD_set_ne (i := 4) (j := 12) false (by decide)] using hG) rfl
    · simp only [List.getElem?_toArray, List.getElem?_cons_zero, List.getElem?_cons_succ, Option.some.injEq] at ho
      subst ho
      refine ⟨rfl, fun K hK => ?_⟩
      have q0 := (hout 0 (by decide)).trans (rfl : _ = (.pointer (some ⟨b, 0, none⟩) : Value))
      have c5 := (hG.1.cell (p := ⟨b, 5, none⟩) hbla).trans c3a
      have c6 := (hG.1.cell (p := ⟨b, 6, none⟩) hbla).trans c4a
      try simp only [Act.eval, Array.getD_eq_getD_getElem?] at q0
      unfold Oper.wp
      simp [execOp, q0, go_sem, Oper.upon]
      exact hK _ _ hT (by simpa only [getD_set_ne (i := 5) (j := 0) false (by decide), getD_set_ne (i := 5) (j := 12) false (by decide)] using hG) rfl
    · simp only [List.getElem?_toArray, List.getElem?_cons_zero, List.getElem?_cons_succ, Option.some.injEq] at ho
      subst ho
      refine ⟨rfl, fun K hK => ?_⟩
      have dp5 := hdep ⟨5, .data⟩ (by simp) rfl
      have ep5 := hev 5 29 rfl dp5
      rw [hT 5 dp5] at ep5
      have c5 := (hG.1.cell (p := ⟨b, 5, none⟩) hbla).trans c3a
      have c6 := (hG.1.cell (p := ⟨b, 6, none⟩) hbla).trans c4a
      try simp only [Act.eval, Array.getD_eq_getD_getElem?] at ep5
      unfold Oper.wp
      simp [execOp, ep5, go_sem, Oper.upon]
      exact hK _ _ hT (by simpa only [getD_set_ne (i := 6) (j := 0) false (by decide), getD_set_ne (i := 6) (j := 12) false (by decide)] using hG) rfl
    · simp only [List.getElem?_toArray, List.getElem?_cons_zero, List.getElem?_cons_succ, Option.some.injEq] at ho
      subst ho
      refine ⟨rfl, fun K hK => ?_⟩
      have dp6 := hdep ⟨6, .data⟩ (by simp) rfl
      have ep6 := hev 6 30 rfl dp6
      rw [hT 6 dp6] at ep6
      have c5 := (hG.1.cell (p := ⟨b, 5, none⟩) hbla).trans c3a
      have c6 := (hG.1.cell (p := ⟨b, 6, none⟩) hbla).trans c4a
      try simp only [Act.eval, Array.getD_eq_getD_getElem?] at ep6
      unfold Oper.wp
      simp [execOp, ep6, go_sem, Oper.upon]
      exact hK _ _ hT (by simpa only [getD_set_ne (i := 7) (j := 0) false (by decide), getD_set_ne (i := 7) (j := 12) false (by decide)] using hG) rfl
    · simp only [List.getElem?_toArray, List.getElem?_cons_zero, List.getElem?_cons_succ, Option.some.injEq] at ho
      subst ho
      refine ⟨rfl, fun K hK => ?_⟩
      have dp7 := hdep ⟨7, .data⟩ (by simp) rfl
      have ep7 := hev 7 31 rfl dp7
      rw [hT 7 dp7] at ep7
      have c5 := (hG.1.cell (p := ⟨b, 5, none⟩) hbla).trans c3a
      have c6 := (hG.1.cell (p := ⟨b, 6, none⟩) hbla).trans c4a
      try simp only [Act.eval, Array.getD_eq_getD_getElem?] at ep7
      unfold Oper.wp
      simp [execOp, ep7, c6, go_sem, Oper.upon]
      exact hK _ _ hT (by simpa only [getD_set_ne (i := 8) (j := 0) false (by decide), getD_set_ne (i := 8) (j := 12) false (by decide)] using hG) rfl
    · simp only [List.getElem?_toArray, List.getElem?_cons_zero, List.getElem?_cons_succ, Option.some.injEq] at ho
      subst ho
      refine ⟨rfl, fun K hK => ?_⟩
      have q5 := (hout 5 (by decide)).trans (rfl : _ = (.int .i64 ((pk : Int)) : Value))
      have c5 := (hG.1.cell (p := ⟨b, 5, none⟩) hbla).trans c3a
      have c6 := (hG.1.cell (p := ⟨b, 6, none⟩) hbla).trans c4a
      try simp only [Act.eval, Array.getD_eq_getD_getElem?] at q5
      unfold Oper.wp
      simp [execOp, q5, go_sem, Oper.upon]
      exact hK _ _ hT (by simpa only [getD_set_ne (i := 9) (j := 0) false (by decide), getD_set_ne (i := 9) (j := 12) false (by decide)] using hG) rfl
    · simp only [List.getElem?_toArray, List.getElem?_cons_zero, List.getElem?_cons_succ, Option.some.injEq] at ho
      subst ho
      refine ⟨rfl, fun K hK => ?_⟩
      have dp8 := hdep ⟨8, .data⟩ (by simp) rfl
      have ep8 := hev 8 32 rfl dp8
      rw [hT 8 dp8] at ep8
      have dp9 := hdep ⟨9, .data⟩ (by simp) rfl
      have ep9 := hev 9 33 rfl dp9
      rw [hT 9 dp9] at ep9
      have c5 := (hG.1.cell (p := ⟨b, 5, none⟩) hbla).trans c3a
      have c6 := (hG.1.cell (p := ⟨b, 6, none⟩) hbla).trans c4a
      try simp only [Act.eval, Array.getD_eq_getD_getElem?] at ep8 ep9
      unfold Oper.wp
      simp [execOp, ep8, ep9, go_sem, Oper.upon]
      rw [wrap_small _ (by omega) (by omega)]
      exact hK _ _ hT (by simpa only [getD_set_ne (i := 10) (j := 0) false (by decide), getD_set_ne (i := 10) (j := 12) false (by decide)] using hG) rfl
    · simp only [List.getElem?_toArray, List.getElem?_cons_zero, List.getElem?_cons_succ, Option.some.injEq] at ho
      subst ho
      refine ⟨rfl, fun K hK => ?_⟩
      have dp4 := hdep ⟨4, .data⟩ (by simp) rfl
      have ep4 := hev 4 28 rfl dp4
      rw [hT 4 dp4] at ep4
      have dp10 := hdep ⟨10, .data⟩ (by simp) rfl
      have ep10 := hev 10 34 rfl dp10
      rw [hT 10 dp10] at ep10
      have c5 := (hG.1.cell (p := ⟨b, 5, none⟩) hbla).trans c3a
      have c6 := (hG.1.cell (p := ⟨b, 6, none⟩) hbla).trans c4a
      try simp only [Act.eval, Array.getD_eq_getD_getElem?] at ep4 ep10
      unfold Oper.wp
      simp [execOp, ep4, ep10, go_sem, Oper.upon]
      rw [if_pos ⟨by omega, by omega⟩, show ((safe : Int) + (pk : Int)).toNat = safe + pk by omega]
      exact hK _ _ hT (by simpa only [getD_set_ne (i := 11) (j := 0) false (by decide), getD_set_ne (i := 11) (j := 12) false (by decide)] using hG) rfl
    · simp only [List.getElem?_toArray, List.getElem?_cons_zero, List.getElem?_cons_succ, Option.some.injEq] at ho
      subst ho
      refine ⟨rfl, fun K hK => ?_⟩
      have dp0 := hdep ⟨0, .data⟩ (by simp) rfl
      have ep0 := hev 0 24 rfl dp0
      rw [hT 0 dp0] at ep0
      have dp11 := hdep ⟨11, .data⟩ (by simp) rfl
      have ep11 := hev 11 35 rfl dp11
      rw [hT 11 dp11] at ep11
      have c5 := (hG.1.cell (p := ⟨b, 5, none⟩) hbla).trans c3a
      have c6 := (hG.1.cell (p := ⟨b, 6, none⟩) hbla).trans c4a
      try simp only [Act.eval, Array.getD_eq_getD_getElem?] at ep0 ep11
      have hown := hG.2.2 hl dp0
      have hb0 : wa.heap.size ≤ w.heap.size := hG.1.size
      refine wp_appS rfl ei_block wa.heap.size (by simp [Act.eval, ep0]) hown (bkv (bl.take (safe + pk))) (by simp [Act.eval, ep11]) (hSl.out.below hG.1) (by exact Hnil.out) (bkv_one _) (by omega) (by unfold maxLen; omega) hb0 (?_ : ∀ v' w', _ → _ → _)
      intro vo w3 ho3 hk3
      have hBk : Below wa.heap.size w w3 := hk3.below (by omega) (fun k hk e => by simp only [Value.ownBlock, Option.some.injEq] at e; omega)
      have hk : ∀ j, listed.getD j false = true → (fun d v w => match d with
          | 0 => v = Value.slice (some ⟨wa.heap.size, 0, none⟩) 0 0
          | 1 => v = .pointer (some ⟨b, 0, none⟩)
          | 2 => v = .pointer (some ⟨b, 0, none⟩)
          | 3 => v = .pointer (some ⟨b, 5, none⟩)
          | 4 => v = Value.slice ao bl.length cap
          | 5 => v = .pointer (some ⟨b, 0, none⟩)
          | 6 => v = .pointer (some ⟨b, 0, none⟩)
          | 7 => v = .pointer (some ⟨b, 6, none⟩)
          | 8 => v = .int .i64 ((safe : Int))
          | 9 => v = .int .i64 ((pk : Int))
          | 10 => v = .int .i64 ((safe : Int) + (pk : Int))
          | 11 => v = Value.slice ao (safe + pk) cap
          | 12 => w.ownsRow wa.heap.size 72 3 v (bl.take (safe + pk)).length (bkv (bl.take (safe + pk)))
          | 13 => w.ownsRow wa.heap.size 72 3 v (bl.take (safe + pk)).length (bkv (bl.take (safe + pk)))
          | _ => True : Nat → Value → World → Prop) j (vs j) (w3) := by
        intro j hj
        have h := hT j hj
        match j, hj, h with
        | 0, hj, h => exact h
        | 1, hj, h => exact h
        | 2, hj, h => exact h
        | 3, hj, h => exact h
        | 4, hj, h => exact h
        | 5, hj, h => exact h
        | 6, hj, h => exact h
        | 7, hj, h => exact h
        | 8, hj, h => exact h
        | 9, hj, h => exact h
        | 10, hj, h => exact h
        | 11, hj, h => exact h
        | 12, hj, h => exact absurd hj (by rw [hl]; decide)
        | 13, hj, h => (simp only at h; first | exact h.alloc _ | exact absurd (hcl 13 _ rfl hj ⟨12, .data⟩ (by simp) rfl) (by rw [hl]; decide))
        | d + 14, hj, h => exact trivial
      refine hK _ _ hk ⟨hG.1.trans hBk, ?_, ?_⟩ (by rw [show (bl.take (safe + pk)).length = 0 + (safe + pk) by rw [List.length_take]; omega]; exact ho3)
      · rw [getD_set_ne (i := 12) (j := 0) false (by decide), dp0]; exact fun h => by cases h
      · rw [Inv.getD_set_self (by omega)]; exact fun h => by cases h
    · simp only [List.getElem?_toArray, List.getElem?_cons_zero, List.getElem?_cons_succ, Option.some.injEq] at ho
      subst ho
      refine ⟨rfl, fun K hK => ?_⟩
      have dp12 := hdep ⟨12, .data⟩ (by simp) rfl
      have ep12 := hev 12 36 rfl dp12
      have tp12 := hT 12 dp12
      simp only at tp12
      have c5 := (hG.1.cell (p := ⟨b, 5, none⟩) hbla).trans c3a
      have c6 := (hG.1.cell (p := ⟨b, 6, none⟩) hbla).trans c4a
      try simp only [Act.eval, Array.getD_eq_getD_getElem?] at ep12
      unfold Oper.wp
      simp [execOp, ep12, go_sem, Oper.upon]
      exact hK _ _ hT (by simpa only [getD_set_ne (i := 13) (j := 0) false (by decide), getD_set_ne (i := 13) (j := 12) false (by decide)] using hG) tp12
  intro listed vs wR hall hT hG
  generalize hfr : Inv.frA _ _ _ _ = fr
  simp [Inv.frA, Act.put] at hfr
  have ex0 : vs 0 = Value.slice (some ⟨wa.heap.size, 0, none⟩) 0 0 := hT 0 (by omega)
  try rw [ex0] at hfr
  clear ex0
  have ex1 : vs 1 = .pointer (some ⟨b, 0, none⟩) := hT 1 (by omega)
  try rw [ex1] at hfr
  clear ex1
  have ex2 : vs 2 = .pointer (some ⟨b, 0, none⟩) := hT 2 (by omega)
  try rw [ex2] at hfr
  clear ex2
  have ex3 : vs 3 = .pointer (some ⟨b, 5, none⟩) := hT 3 (by omega)
  try rw [ex3] at hfr
  clear ex3
  have ex4 : vs 4 = Value.slice ao bl.length cap := hT 4 (by omega)
  try rw [ex4] at hfr
  clear ex4
  have ex5 : vs 5 = .pointer (some ⟨b, 0, none⟩) := hT 5 (by omega)
  try rw [ex5] at hfr
  clear ex5
  have ex6 : vs 6 = .pointer (some ⟨b, 0, none⟩) := hT 6 (by omega)
  try rw [ex6] at hfr
  clear ex6
  have ex7 : vs 7 = .pointer (some ⟨b, 6, none⟩) := hT 7 (by omega)
  try rw [ex7] at hfr
  clear ex7
  have ex8 : vs 8 = .int .i64 ((safe : Int)) := hT 8 (by omega)
  try rw [ex8] at hfr
  clear ex8
  have ex9 : vs 9 = .int .i64 ((pk : Int)) := hT 9 (by omega)
  try rw [ex9] at hfr
  clear ex9
  have ex10 : vs 10 = .int .i64 ((safe : Int) + (pk : Int)) := hT 10 (by omega)
  try rw [ex10] at hfr
  clear ex10
  have ex11 : vs 11 = Value.slice ao (safe + pk) cap := hT 11 (by omega)
  try rw [ex11] at hfr
  clear ex11
  have ex12 := hT 12 (by omega)
  simp only at ex12
  have ex13 := hT 13 (by omega)
  simp only at ex13
  have fl0 := hall 0 (by omega)
  have fl12 := hall 12 (by omega)
  simp only [fl0, fl12, forall_const, reduceCtorEq, false_implies, implies_true, true_and, and_true, true_implies] at hG
  clear fl0 fl12
  clear hT hall
  generalize vs 12 = y12 at *
  generalize vs 13 = y13 at *
  subst hfr
  have hBR := hBa.trans (hG.mono hBa.size)
  have hb2 : Blk wR b #[.int .i64 (room), .int .i64 (used), .bool lost, .int .i64 (fail), .string label, .slice ao bl.length cap, .int .i64 ((safe : Nat)), .int .i64 ((pos : Nat)), .bool prot, .int .i64 (er)] 36 := h.blk.keep (only_of_below hBR (fun _ => False)) (fun e => e)
  have hbsz := hBa.size
  have hWz : wa.heap.size ≤ wR.heap.size := hG.size
  clear hG ex12 c3a c4a hSl hbla HPk hW1
  obtain ⟨a6, c6, rfl, _, h6m, _, _⟩ := Sl.of_own ex13
  unfold maxLen at h6m
  have hl6 : (bl.take (safe + pk)).length = safe + pk := by rw [List.length_take]; omega
  rw [hl6] at ex13 ⊢
  obtain ⟨cd, hcd⟩ : ∃ cd : Bool, cd = (match bl[safe + pk]? with | some k => !k.mark | none => false) := ⟨_, rfl⟩
  have HC : Hid (∀ k, bl[safe + pk]? = some k → ∃ g off, al = some ⟨g, off, none⟩ ∧ wR.cell? ⟨g, off + pk * 3, none⟩ = some (.string k.s) ∧ wR.cell? ⟨g, off + pk * 3 + 1, none⟩ = some (.bool k.mark) ∧ k.s.size ≤ 1000000 ∧ pk < bl.length - safe) := by
    refine Lib.hid (fun k hk => ?_)
    have hlt := (List.getElem?_eq_some_iff.1 hk).1
    have hke := (List.getElem?_eq_some_iff.1 hk).2
    have g0 := bkv_get (bl.drop safe) pk (by simp; omega) 0 (by omega)
    have g1 := bkv_get (bl.drop safe) pk (by simp; omega) 1 (by omega)
    rw [List.getElem_drop, hke] at g0 g1
    simp only [Bk.cells, List.getElem?_cons_succ, List.getElem?_cons_zero] at g0 g1
    obtain ⟨g, off, e, hc⟩ := HL.out (by omega)
    have e0 := (hBR.cell (p := ⟨g, off + (pk * 3 + 0), none⟩) (World.block_lt_of_cell? _ _ (hc _ _ g0))).trans (hc _ _ g0)
    have e1 := (hBR.cell (p := ⟨g, off + (pk * 3 + 1), none⟩) (World.block_lt_of_cell? _ _ (hc _ _ g1))).trans (hc _ _ g1)
    exact ⟨g, off, e, e0, e1, o8 k (List.mem_of_getElem? hk), by omega⟩
  have Hcd := Lib.hid hcd
  clear hcd HL
  go_upto_region 3 with (fail)
  go_cut [48] (fun c wx => c = .bool cd ∧ wx = wR)
  case first =>
    rcases hk : bl[safe + pk]? with _ | k
    · have hcd := Hcd.out
      rw [hk] at hcd
      have i1 : bl.length - safe ≤ pk := by have := List.getElem?_eq_none_iff.1 hk; omega
      clear hk
      subst hcd
      go_wp2_with fail
      go_meet
      case rel => exact ⟨rfl, rfl⟩
    · have hcd := Hcd.out
      rw [hk] at hcd
      obtain ⟨g, off, rfl, e0, e1, hks, i1⟩ := HC.out k hk
      clear hk
      obtain ⟨s, mk, tn⟩ := k
      simp only at hcd e0 e1 hks
      cases mk with
      | true =>
        obtain rfl : cd = false := hcd
        go_wp2_with fail
        go_meet
        case rel => exact ⟨rfl, rfl⟩
      | false =>
        obtain rfl : cd = true := hcd
        go_wp2_with fail
        go_meet
        case rel => exact ⟨rfl, rfl⟩
  case rest =>
    obtain ⟨rfl, rfl⟩ := hcut
    have hOut := crashOut_ok ⟨room, used, lost, fail, label, bl, safe, pos, prot, er⟩ ch o8 o5
    rw [← HOf.out] at hOut
    obtain ⟨hsO, hlO⟩ := hOut
    go_upto_if 48 with (fail)
    go_cut [6] (fun v6 wx => wx.ownsRow w.heap.size 72 3 v6 out.length (bkv out) ∧ Below w.heap.size w wx)
    case first =>
      cases cd with
      | false =>
        have HOe : out = bl.take (safe + pk) := by
          have hcd := Hcd.out
          have ho := HO.out
          rcases hk : bl[safe + pk]? with _ | k
          · rw [hk] at ho; exact ho
          · rw [hk] at ho hcd
            have hm : k.mark = true := by cases hm : k.mark <;> simp [hm] at hcd ⊢
            simp only at ho
            rw [if_neg (by rw [hm]; simp)] at ho
            exact ho
        go_wp2_with fail
        go_meet
        case rel =>
          refine ⟨?_, hBR⟩
          rw [HOe, hl6]
          exact own_base ex13 hbsz
      | true =>
        obtain ⟨k, hk, hm⟩ : ∃ k, bl[safe + pk]? = some k ∧ k.mark = false := by
          have hcd := Hcd.out
          rcases hk : bl[safe + pk]? with _ | k
          · rw [hk] at hcd; cases hcd
          · rw [hk] at hcd
            exact ⟨k, rfl, by cases hm : k.mark <;> simp [hm] at hcd ⊢⟩
        have HOk := HO.out
        rw [hk] at HOk
        obtain ⟨g, off, rfl, e0, e1, hks, i1⟩ := HC.out k hk
        clear hk Hcd HC HO
        obtain ⟨s, mk, tn⟩ := k
        simp only at hm e0 e1 hks HOk
        subst hm
        have hb3 := pickR_bd ch 1 s.size
        have HP := Lib.hid (HPn.out wc s.size hBR (by omega))
        obtain ⟨n, hn⟩ : ∃ n : Nat, pickR ch 1 s.size = (n : Int) := Int.eq_ofNat_of_zero_le hb3.1
        rw [hn] at HOk hb3 HP
        have hns : n ≤ s.size := by rcases Nat.eq_zero_or_pos s.size with e | e; (have := hb3.2.2 (by omega); omega); (have := hb3.2.1 (by omega); omega)
        clear hb3
        have HOk2 := Lib.hid HOk
        clear HOk
        go_wp2_with fail
        refine HP.out.mono ?_; rintro e w3 ⟨k3, rfl, rfl⟩
        by_cases hn0 : n = 0
        · subst hn0
          have HOe : out = bl.take (safe + pk) := by rw [HOk2.out, if_neg (by simp)]
          go_wp2_with fail
          go_meet
          case rel =>
            refine ⟨?_, below_drew hBR _⟩
            rw [HOe, hl6]
            exact own_base ex13 hbsz
        · have hn1 : 0 < n := by omega
          have HOe : out = bl.take (safe + pk) ++ [⟨s.extract 0 n, false, true⟩] := by rw [HOk2.out, if_pos (by simp; omega)]; rfl
          have hn1' : (safe + pk + 1) * 24 ≤ 140737488355328 := by omega
          have hn2' : safe + pk + 1 ≤ maxLen := by unfold maxLen; omega
          have hwz : wa.heap.size ≤ (wc.drewN k3).heap.size + 1 := by show wa.heap.size ≤ wc.heap.size + 1; omega
          go_wp2_with (at_builtin; refine wpl_app rfl rfl ei_block wa.heap.size rfl (World.ownsRow.alloc (w := wc.drewN k3) ex13 _) [.string (s.extract 0 n), .bool false, .bool true] rfl rfl (Blk.new (wc.drewN k3) _ _) rfl hn1' hn2' (by simpa using hwz) ?_; intro v' w5 ho5 hk5; obtain ⟨a5, c5', rfl, _, _, _, _⟩ := Sl.of_own ho5)
          have hBx : Below w.heap.size wc w5 := Below.trans (b := (wc.drewN k3).alloc (.cells #[.string (s.extract 0 n), .bool false, .bool true] 72)) ((below_drew (Below.refl _ _) _).alloc (by simpa using hBR.size) _) (Only.below hk5 (by simp; have := hBR.size; omega) (fun k hk e => by have := (ex13.lt k e).1; omega))
          go_meet
          case rel =>
            refine ⟨?_, hBR.trans hBx⟩
            rw [HOe, bkv_app, List.length_append, hl6]
            exact own_base ho5 hbsz
    case rest =>
      obtain ⟨hown, hBt⟩ := hcut
      clear HPn HC HO Hcd hb2 ex13 hBR hBa HRa Hnil
      obtain ⟨a6, c6, rfl, _, h6m, _, _⟩ := Sl.of_own hown
      unfold maxLen at h6m
      obtain ⟨wt, hwt⟩ : ∃ x, x = wc := ⟨_, rfl⟩
      rw [← hwt] at hown hBt ⊢
      have ho1 := hown
      have hbb2 : Blk wt b #[.int .i64 (room), .int .i64 (used), .bool lost, .int .i64 (fail), .string label, .slice ao bl.length cap, .int .i64 ((safe : Nat)), .int .i64 ((pos : Nat)), .bool prot, .int .i64 (er)] 36 := h.blk.keep (only_of_below hBt (fun _ => False)) (fun e => e)
      clear hown hwt
      have HU : Hid (∀ wx, Blk wx b #[.int .i64 (room), .int .i64 (used), .bool lost, .int .i64 (fail), .string label, .slice ao bl.length cap, .int .i64 ((safe : Nat)), .int .i64 ((pos : Nat)), .bool prot, .int .i64 (er)] 36 → Calls Try.prog 13 #[.pointer (some ⟨b, 0, none⟩)] wx (Now (.int .i64 (used)) wx b #[.int .i64 (room), .int .i64 (used), .bool lost, .int .i64 (fail), .string label, .slice ao bl.length cap, .int .i64 ((safe : Nat)), .int .i64 ((pos : Nat)), .bool prot, .int .i64 (er)] 36)) := Lib.hid (fun wx hbx => used_blk _ 0 _ _ _ used hbx rfl)
      have HGv : Hid (∀ wx, Blk wx b #[.int .i64 (room), .int .i64 (used), .bool lost, .int .i64 (fail), .string label, .slice ao bl.length cap, .int .i64 ((safe : Nat)), .int .i64 ((pos : Nat)), .bool prot, .int .i64 (er)] 36 → Calls Try.prog 35 #[.pointer (some ⟨b, 0, none⟩), .int .i64 (used)] wx (Now (.int .i64 (0)) wx b #[.int .i64 (room), .int .i64 (0), .bool lost, .int .i64 (fail), .string label, .slice ao bl.length cap, .int .i64 ((safe : Nat)), .int .i64 ((pos : Nat)), .bool prot, .int .i64 (er)] 36)) := Lib.hid (fun wx hbx => give_blk _ 0 _ _ _ used used hbx rfl o1 (by omega) 0 0 _ (giveR_self used o1) rfl)
      go_wp2_with fail
      go_region_with (first | (go_at_call 13; refine (HU.out _ (by exact hbb2)).mono ?_; rintro e w3 ⟨rfl, hb3, hO3⟩) | (go_at_call 35; refine (HGv.out _ hb3).mono ?_; rintro e w4 ⟨rfl, hb4, hO4⟩))
      have hO24 : Only (· = b) wt w4 := Only.trans (b := wt.drew) ((Only.refl _ _).drew) (hO3.trans hO4 (fun _ _ e => e)) (fun _ _ e => e)
      have hne : (Value.slice a6 out.length c6).ownBlock ≠ some b := own_ne ho1 hbb2 (by decide)
      have ho4 := own_keep ho1 hO24 (fun g hg e => hne (by rw [hg, e]))
      have hS4 : Only (relS w base b) w w4 := ((only_of_below hBt (fun k => k = b)).trans hO24 (fun _ _ e => e)).mono (fun k _ e => Or.inl e)
      have hle4 : w.heap.size ≤ w4.heap.size := hS4.size
      clear hb3 hO3 hO4 hO24 hbb2 ho1 hBt HU HGv
      go_wp2_with fail
      go_loopw [80] (fun i wr => ∃ j : Nat, j ≤ out.length ∧ i = .int .i64 (j) ∧ Blk wr b #[.int .i64 (room), .int .i64 (takeAll room (out.take j) 0), .bool lost, .int .i64 (fail), .string label, .slice ao bl.length cap, .int .i64 ((safe : Nat)), .int .i64 ((pos : Nat)), .bool prot, .int .i64 (er)] 36 ∧ wr.ownsRow w.heap.size 72 3 (.slice a6 out.length c6) out.length (bkv out) ∧ Only (relS w base b) w wr) (fun i _ => out.length - (intOf i).toNat)
      case atStart => exact ⟨0, Nat.zero_le _, rfl, by simpa [takeAll] using hb4, ho4, hS4⟩
      obtain ⟨j, hj, rfl, hbr, hor, hSr⟩ := hrel
      have hub := takeAll_bd room (out.take j) 0 (Int.le_refl _) (by omega)
      clear hb4 ho4 hS4
      rcases Nat.lt_or_ge j out.length with hjl | hjg
      · have g0 := bkv_get out j hjl 0 (by omega)
        have g1 := bkv_get out j hjl 1 (by omega)
        have g2 := bkv_get out j hjl 2 (by omega)
        have hkj := hsO (out[j]) (List.getElem_mem _)
        have hst := Lib.hid (takeAll_snoc room (out.take j) (out[j]) 0)
        rw [← take_snoc' out j hjl] at hst
        generalize out[j] = kj at *
        obtain ⟨sj, mj, tj⟩ := kj
        simp only [Bk.cells, List.getElem?_cons_succ, List.getElem?_cons_zero] at g0 g1 g2 hkj hst
        obtain ⟨_, _, ev, _, _, _, hsr⟩ := Sl.of_own hor
        cases ev
        obtain ⟨gj, oj, rfl, _, hcr⟩ := hsr (by first | omega | (simp only; omega))
        have e0 := hcr _ _ g0
        have e1 := hcr _ _ g1
        have e2 := hcr _ _ g2
        rw [← Nat.add_assoc] at e0 e1 e2
        rw [Nat.add_zero] at e0
        clear g0 g1 g2 hcr hsr
        obtain ⟨a2, u2, hq2⟩ : ∃ a2 u2, takeR room (takeAll room (out.take j) 0) ((sj.size : Int) + 4) = (a2, u2) := ⟨_, _, rfl⟩
        rw [hq2] at hst
        simp only at hst
        generalize takeAll room (out.take j) 0 = u1 at *
        have HTk : Hid (∀ wx, Blk wx b #[.int .i64 (room), .int .i64 (u1), .bool lost, .int .i64 (fail), .string label, .slice ao bl.length cap, .int .i64 ((safe : Nat)), .int .i64 ((pos : Nat)), .bool prot, .int .i64 (er)] 36 → Calls Try.prog 36 #[.pointer (some ⟨b, 0, none⟩), .int .i64 ((sj.size : Int) + 4)] wx (Now (.int .i64 (a2)) wx b #[.int .i64 (room), .int .i64 (u2), .bool lost, .int .i64 (fail), .string label, .slice ao bl.length cap, .int .i64 ((safe : Nat)), .int .i64 ((pos : Nat)), .bool prot, .int .i64 (er)] 36)) := Lib.hid (fun wx hbx => take_blk _ 0 _ _ _ room u1 _ hbx rfl rfl hub.1 hub.2 (by omega) a2 u2 _ hq2 rfl)
        have hneb := own_ne hor hbr (by decide)
        clear hq2 hub
        have hx0 := (Blk.new wr #[.string sj, .bool mj, .bool tj] 72)
        have b0 := hx0.cell 0
        have b1 := hx0.cell 1
        have b2 := hx0.cell 2
        simp only [List.getElem?_toArray, List.getElem?_cons_zero, List.getElem?_cons_succ] at b0 b1 b2
        go_wp2_with fail
        go_region_with (first | (go_at_call 37; refine (block_weight sj hkj mj tj _).mono ?_; rintro e w5 ⟨rfl, hB5⟩) | (go_at_call 36; refine (HTk.out _ (Blk.keep (w := (wr.alloc (.cells #[.string sj, .bool mj, .bool tj] 72)).drew) (hbr.alloc _) (only_of_below hB5 (fun _ => False)) (fun e => e))).mono ?_; rintro e w6 ⟨rfl, hb6, hO6⟩))
        have hO56 : Only (· = b) wr w6 := Only.trans (b := (wr.alloc (.cells #[.string sj, .bool mj, .bool tj] 72)).drew) ((Only.refl _ _).alloc _).drew ((only_of_below hB5 (fun k => k = b)).trans hO6 (fun _ _ e => e)) (fun _ _ e => e)
        clear b0 b1 b2 hx0 e0 e1 e2
        go_wp2_with fail
        refine ⟨⟨j + 1, by omega, by go_num, (by rw [hst.out]; exact hb6), own_keep hor hO56 (fun g hg e => hneb (by rw [hg, e])), hSr.trans hO56 (fun _ _ e => Or.inl e)⟩, by simp [intOf]; omega⟩
      · obtain rfl : j = out.length := by omega
        rw [List.take_length] at hbr
        have hr := Hres.out
        have cx5 := hbr.cell 5
        have cx6 := hbr.cell 6
        have cx7 := hbr.cell 7
        have ff := hbr.frozen
        simp only [List.getElem?_toArray, List.getElem?_cons_zero, List.getElem?_cons_succ] at cx5 cx6 cx7
        have hlt := hbr.lt
        have hneb := own_ne hor hbr (by decide)
        have Hr := Lib.hid hr
        clear hr
        go_wp2_with fail
        go_end0
        rw [Hr.out]
        have hO7 : Only (· = b) wr (((wr.setCell ⟨b, 5, none⟩ (.slice a6 out.length c6)).setCell ⟨b, 6, none⟩ (.int .i64 ((out.length : Nat)))).setCell ⟨b, 7, none⟩ (.int .i64 (0))) := (((Only.refl (· = b) wr).setCell ⟨b, 5, none⟩ _ (fun _ => rfl)).setCell ⟨b, 6, none⟩ _ (fun _ => rfl)).setCell ⟨b, 7, none⟩ _ (fun _ => rfl)
        refine ⟨rfl, .slice a6 out.length c6, ⟨?_, own_base (own_keep hor hO7 (fun g hg e => hneb (by rw [hg, e]))) h.le, ?_⟩, hSr.trans hO7 (fun _ _ e => Or.inl e)⟩
        · simpa [Vol.cells] using ((hbr.set 5 (.slice a6 out.length c6)).set 6 (.int .i64 ((out.length : Nat)))).set 7 (.int .i64 (0))
        · exact Nat.le_trans h.le (Nat.le_trans hSr.size hO7.size)
end Go.Proofs.Ytdgaknpocbnomaa
