/- Enc of wire: numbers as bytes, in plain Lean, and what U answers. -/
import Derived.Test.YtloimgmifalpnaaBase
import Derived.Test.YtloimgmifalpnaaArgs
import Derived.Deep.RegionLaw
import Derived.WalkSmall
set_option linter.unusedSimpArgs false
set_option linter.unusedVariables false
namespace Go.Proofs.Ytloimgmifalpnaa
open Go.RowKit

namespace Wire
/-- the groups of v from the k-th down -/
def hi (v : Nat) : Nat → List UInt8
  | 0 => [UInt8.ofNat (v % 128)]
  | k + 1 => UInt8.ofNat (v / 2 ^ (7 * (k + 1)) % 128 + 128) :: hi v k
/-- how many groups lie ahead of the last -/
def grp (v : Nat) : Nat := if v < 128 then 0 else grp (v / 128) + 1
termination_by v
decreasing_by omega
def num (v : Nat) : List UInt8 := hi v (grp v)
theorem hi_length (v k : Nat) : (hi v k).length = k + 1 := by
  induction k with
  | zero => rfl
  | succ k ih => simp [hi, ih]
theorem grp_le (v k : Nat) (h : v / 2 ^ (7 * k) < 128) : grp v ≤ k := by
  induction k generalizing v with
  | zero => rw [grp, if_pos (by simpa using h)]; exact Nat.le_refl _
  | succ k ih =>
    rw [grp]
    split
    · omega
    · have := ih (v / 128) (by
        rw [Nat.div_div_eq_div_mul, show 128 * 2 ^ (7 * k) = 2 ^ (7 * (k + 1)) from by rw [Nat.mul_add, Nat.pow_add, Nat.mul_comm]]; exact h)
      omega
theorem grp_spec (v : Nat) : v / 2 ^ (7 * grp v) < 128 := by
  fun_induction grp v with
  | case1 v h => simpa using h
  | case2 v h ih =>
    rw [Nat.div_div_eq_div_mul] at ih
    rw [Nat.mul_add, Nat.pow_add, Nat.mul_comm (2 ^ (7 * grp (v / 128)))]
    exact ih
theorem grp_big (v k : Nat) (h : k < grp v) : 128 ≤ v / 2 ^ (7 * k) := by
  by_cases c : 128 ≤ v / 2 ^ (7 * k)
  · exact c
  · have := grp_le v k (by omega)
    omega
theorem grp_64 (v : Nat) (h : v < 2 ^ 64) : grp v ≤ 9 := grp_le v 9 (by
  apply Nat.div_lt_of_lt_mul
  omega)
theorem num_length (v : Nat) : (num v).length = grp v + 1 := hi_length _ _
theorem flat_le (l : List Nat) (h : ∀ x ∈ l, x < 2 ^ 64) : (l.flatMap num).length ≤ 10 * l.length := by
  induction l with
  | nil => simp
  | cons a l ih =>
    have := ih (fun x hx => h x (by simp [hx]))
    have h2 := num_length a
    have h3 := grp_64 a (h a (by simp))
    simp only [List.flatMap_cons, List.length_append, List.length_cons]
    omega
end Wire

theorem enc_or (n : Nat) (e : Int) (h : e = (n : Int)) : bits BinOp.or IntKind.u8 (IntKind.u8.wrap e) 128 = (((UInt8.ofNat (n % 128 + 128)).toNat : Nat) : Int) := by
  subst h
  have h1 : IntKind.u8.wrap (n : Int) = ((n % 256 : Nat) : Int) := by simp [IntKind.wrap, IntKind.signed, IntKind.bits]
  rw [h1]
  have hk : n % 256 < 256 := Nat.mod_lt _ (by omega)
  have e1 : n % 128 = (n % 256) % 128 := by omega
  rw [e1]
  generalize n % 256 = m at hk
  revert m
  decide +kernel
theorem enc_and (n : Nat) (hn : n < 18446744073709551616) : bits BinOp.and IntKind.u64 (n : Int) 127 = ((n % 128 : Nat) : Int) := by
  have h := bits_and_u64_nat n 127 hn (by omega)
  rw [show (127 : Nat) = 2 ^ 7 - 1 from rfl, Nat.and_two_pow_sub_one_eq_mod] at h
  exact h
/-- bytes as cells -/
def byv (l : List UInt8) : List Value := l.map fun c => .int .u8 (c.toNat : Int)
/-- numbers as cells -/
def u64v (l : List Nat) : List Value := l.map fun (n : Nat) => .int .u64 (n : Int)
/-- Block b is an Enc whose bytes are l; v is its slice. -/
structure EncV (w : World) (base b : Nat) (v : Value) (l : List UInt8) : Prop where
  blk : Blk w b #[v] 46
  own : w.ownsRow base 5 1 v l.length (byv l)
  le : base ≤ w.heap.size
/-- what a call of an Enc may turn: its block, and rows of bytes from base on -/
def encS (w : World) (base b : Nat) : Nat → Prop := fun k => k = b ∨ (base ≤ k ∧ ∃ cs fr, w.heap[k]? = some (.cells cs 5 fr))
/-- Enc b's bytes have become l, and nothing else that was there has turned. -/
def EncTo (w : World) (base b : Nat) (l : List UInt8) (w' : World) : Prop := ∃ v', EncV w' base b v' l ∧ Only (encS w base b) w w'

theorem EncV.apart {w : World} {base b : Nat} {v : Value} {l : List UInt8} (h : EncV w base b v l) : v.ownBlock ≠ some b := own_ne h.own h.blk (by decide)
theorem EncTo.refl {w : World} {base b : Nat} {v : Value} {l : List UInt8} (h : EncV w base b v l) : EncTo w base b l w := ⟨v, h, Only.refl _ _⟩
theorem encS_trans {w w' w'' : World} {base b : Nat} (h1 : Only (encS w base b) w w') (h2 : Only (encS w' base b) w' w'') : Only (encS w base b) w w'' := by
  refine h1.trans h2 ?_
  intro x hx h
  by_cases c : encS w base b x
  · exact c
  · rcases h with e | ⟨e, cs, fr, hh⟩
    · exact Or.inl e
    · rw [h1.block x hx c] at hh
      exact Or.inr ⟨e, cs, fr, hh⟩
theorem EncTo.trans {w w' w'' : World} {base b : Nat} {l' : List UInt8} (h1 : Only (encS w base b) w w') (h3 : EncTo w' base b l' w'') : EncTo w base b l' w'' := by
  obtain ⟨u, he, ho⟩ := h3
  exact ⟨u, he, encS_trans h1 ho⟩
theorem own_encS {w : World} {base b : Nat} {v : Value} {n : Nat} {xs : List Value} (h : w.ownsRow base 5 1 v n xs) : ∀ k, v.ownBlock = some k → encS w base b k := by
  intro k hk
  rcases h.2 with ⟨rfl, _⟩ | ⟨g, cap, cur, rfl, hg, hh, _⟩
  · cases hk
  · injection hk with hk
    subst hk
    exact Or.inr ⟨hg, _, _, hh⟩

/-- one more byte, stored in the Enc; no draw -/
theorem EncTo.more' {w w2 : World} {base b : Nat} {v v1 : Value} {l l' : List UInt8} (h : EncV w base b v l) (cs : Array Value) (T : TypeId) (k : Only (fun k => v.ownBlock = some k) (w.alloc (.cells cs T)) w2)
    (ho : w2.ownsRow base 5 1 v1 l'.length (byv l')) : EncTo w base b l' (w2.setCell ⟨b, 0, none⟩ v1) := by
  have hb2 : Blk w2 b #[v] 46 := Blk.keep (h.blk.alloc _) k h.apart
  have hne : v1.ownBlock ≠ some b := own_ne ho hb2 (by decide)
  have hlt := h.blk.lt
  have hle := h.le
  have k2 : Only (encS w base b) w w2 := Only.trans ((Only.refl (encS w base b) w).alloc _) k (fun x _ e => own_encS h.own x e)
  refine ⟨v1, ⟨by simpa using hb2.set 0 v1, own_keep ho ((Only.refl (· = b) w2).setCell ⟨b, 0, none⟩ v1 (fun _ => rfl)) (fun g hg e => hne (e ▸ hg)), ?_⟩, k2.setCell ⟨b, 0, none⟩ v1 (fun _ => Or.inl rfl)⟩
  have := k2.size
  simp [World.setCell]
  omega

theorem ei_byte : EI Try.prog 44 5 (.int .u8 0) 1 1 := EI.mk' Try.underlying44 (by kernel_rfl) rfl (by decide)

theorem EncV.held {w : World} {base b : Nat} {v : Value} {l : List UInt8} {w1 w2 : World} (h : EncV w base b v l) (cs : Array Value) (T : TypeId) (hw : w1 = (w.alloc (.cells cs T)).drew) (k : Only (fun k => v.ownBlock = some k) w1 w2) : Blk w2 b #[v] 46 := by
  subst hw
  exact Blk.keep (w := (w.alloc (.cells cs T)).drew) (h.blk.alloc _) k h.apart

/-- one more round: a row that has grown, stored in the Enc -/
theorem EncTo.more {w w1 w2 : World} {base b : Nat} {v v1 : Value} {l l' : List UInt8} (h : EncV w base b v l) (cs : Array Value) (T : TypeId) (hw : w1 = (w.alloc (.cells cs T)).drew) (k : Only (fun k => v.ownBlock = some k) w1 w2)
    (ho : w2.ownsRow base 5 1 v1 l'.length (byv l')) : EncTo w base b l' (w2.setCell ⟨b, 0, none⟩ v1) := by
  have hb2 := h.held cs T hw k
  have hne : v1.ownBlock ≠ some b := own_ne ho hb2 (by decide)
  have hlt := h.blk.lt
  have hle := h.le
  subst hw
  have k2 : Only (encS w base b) w w2 := Only.trans (b := (w.alloc (.cells cs T)).drew) ((Only.refl (encS w base b) w).alloc _).drew k (fun x _ e => own_encS h.own x e)
  refine ⟨v1, ⟨by simpa using hb2.set 0 v1, own_keep ho ((Only.refl (· = b) w2).setCell ⟨b, 0, none⟩ v1 (fun _ => rfl)) (fun g hg e => hne (e ▸ hg)), ?_⟩, k2.setCell ⟨b, 0, none⟩ v1 (fun _ => Or.inl rfl)⟩
  have := k2.size
  simp [World.setCell]
  omega

/-- 'append' to an own row, in a region that draws its order -/
theorem step_app {P : Program} {w : World} {ops : Array Oper} {o : Oper} {a : Act} {K : Act → World → Prop} {Q : Exit → Act → World → Prop} {E : Prop} {s x : Operand} {t e : TypeId} {z : Value} {sz bytes : Nat}
    (hgd : o.guard = none) (ho : o.op = .call { callee := .builtin .append, args := #[s, x], argTypes := #[t, t] }) (hE : EI P t e z sz bytes)
    {v : Value} {n : Nat} {xs : List Value} (base : Nat) (hs : a.eval s = v) (hown : w.ownsRow base e sz v n xs)
    {g m c : Nat} (news : List Value) (hx : a.eval x = .slice (some ⟨g, 0, none⟩) m c) (hl : news.length = m * sz) {U : TypeId} (hb : Blk w g news.toArray U) (h1 : news.all (·.oneCell') = true)
    (hbytes : (n + m) * bytes ≤ 140737488355328) (hmax : n + m ≤ maxLen) (hbase : base ≤ w.heap.size)
    (h : ∀ v' w', w'.ownsRow base e sz v' (n + m) (xs ++ news) → Only (fun k => v.ownBlock = some k) w w' → K (a.put o.dst v') w') :
    if Region.wanted o (yielded ops a.tmps) = true then Oper.wp P o a w K Q else E := by
  have hw : Region.wanted o (yielded ops a.tmps) = true := by simp [Region.wanted, hgd]
  rw [if_pos hw]
  obtain ⟨ht, hzs, hsz, i, hi, hz, hsize, hby⟩ := hE
  refine wp_append_own w s x t ho base e i z sz bytes ht hi hz hsize hby hzs hsz v n xs hs hown ⟨g, 0, none⟩ m c news hx hl ?_ ?_ hmax hbytes hbase ?_
  · intro j u hu
    rw [Addr.add_lit, hb.cell]
    simpa using hu
  · intro u hu
    exact List.all_eq_true.1 h1 u hu
  · intro v' w' ho' hg _
    exact h v' w' ho' ((Only.refl _ w).grown hg (fun k hk _ => hk))

set_option maxHeartbeats 1000000
theorem enc_U (ls : List Nat) (hls : ∀ x ∈ ls, x < 2 ^ 64) (base b : Nat) (v : Value) (l : List UInt8) (hlen : l.length + 10 * ls.length ≤ 1000000000) (arg : Value) (w : World) (hE : EncV w base b v l) (ha : Sl w arg ls.length 1 (u64v ls)) (hap : ∀ ao n c, arg = .slice ao n c → 0 < n → ∀ a, ao = some a → ¬ encS w base b a.block) :
    Calls Try.prog 11 #[.pointer (some ⟨b, 0, none⟩), arg] w (fun e w' => e = .returned (.pointer (some ⟨b, 0, none⟩)) ∧ EncTo w base b (l ++ ls.flatMap Wire.num) w') := by
  obtain ⟨ao, cap, rfl, h1, h2, hl3, h3⟩ := ha
  have hap := hap _ _ _ rfl
  have Hap := Lib.hid hap
  have H3 := Lib.hid h3
  clear hap h3
  generalize hlen' : ls.length = len at *
  have Hlen := Lib.hid hlen'
  have hcm : cap ≤ 9223372036854775807 := by unfold maxLen at h2; omega
  clear hlen'
  (go_enter Try.func11, Try.ntmps11)
  go_wp2_with fail
  go_loopw [10] (fun i wr => ∃ j : Nat, j ≤ len ∧ i = .int .i64 (j) ∧ EncTo w base b (l ++ (ls.take j).flatMap Wire.num) wr) (fun i _ => len - (intOf i).toNat)
  case atStart => exact ⟨0, by omega, rfl, by simpa using EncTo.refl hE⟩
  case round =>
    obtain ⟨j, hj, rfl, v1, hE1, hO1⟩ := hrel
    by_cases hlt : j < len
    · have hjl : j < ls.length := by have := Hlen.out; omega
      obtain ⟨bb, off, rfl, hb1, hcell⟩ := H3.out (by omega)
      have hc0 := hcell j (.int .u64 (ls[j] : Nat)) (by simp [u64v, hjl])
      have hc : wr.cell? ⟨bb, off + j, none⟩ = some (.int .u64 (ls[j] : Nat)) := (hO1.cell (p := ⟨bb, off + j, none⟩) hb1 (Hap.out (by omega) ⟨bb, off, none⟩ rfl)).trans hc0
      have hx64 := hls ls[j] (List.getElem_mem _)
      generalize hx : ls[j] = x at *
      have Hx := Lib.hid hx
      clear hx hcell hc0
      go_wp2_with fail
      go_loop [7] (fun n => ∃ k : Nat, k ≤ Wire.grp x ∧ n = .int .i64 ((7 * k : Nat))) (fun n => Wire.grp x - (intOf n).toNat / 7)
      case atStart => exact ⟨0, by omega, rfl⟩
      case round =>
        obtain ⟨k, hk, rfl⟩ := hrel
        have hk9 := Wire.grp_64 x hx64
        by_cases hkg : k < Wire.grp x
        · have hbig : (127 : Int) < (x : Int) / 2 ^ (7 * k) := by have := Wire.grp_big x k hkg; exact_mod_cast this
          go_wp2_with fail
          exact ⟨⟨k + 1, by omega, by go_num⟩, by simp [intOf]; omega⟩
        · obtain rfl : k = Wire.grp x := by omega
          have hsm : (x : Int) / 2 ^ (7 * Wire.grp x) ≤ 127 := by have := Wire.grp_spec x; exact_mod_cast Nat.le_of_lt_succ this
          clear hkg hk
          have hLn := hls
          have hnum : Hid (Wire.num x = Wire.hi x (Wire.grp x)) := Lib.hid rfl
          have hLb : (l ++ (ls.take j).flatMap Wire.num).length + 10 ≤ 1000000000 := by
            have := Wire.flat_le (ls.take j) (fun y hy => hls y (List.mem_of_mem_take hy))
            have h2 : (ls.take j).length = j := List.length_take_of_le (by omega)
            rw [List.length_append]
            omega
          generalize hL : l ++ (ls.take j).flatMap Wire.num = L at *
          generalize hG : Wire.grp x = G at *
          have HG := Lib.hid hG
          have HL := Lib.hid hL
          clear hG hL
          go_wp2_with fail
          go_loopw [7] (fun n wq => ∃ (k : Nat) (pre : List UInt8), k ≤ G ∧ n = .int .i64 ((7 * k : Nat)) ∧ Hid (Wire.num x = pre ++ Wire.hi x k) ∧ pre.length + k = G ∧ EncTo w base b (L ++ pre) wq) (fun n _ => (intOf n).toNat)
          case atStart => exact ⟨G, [], by omega, rfl, Lib.hid hnum.out, by simp, v1, by simpa using hE1, hO1⟩
          case round =>
            obtain ⟨k, pre, hk, rfl, hpre, hpl, v2, hE2, hO2⟩ := hrel
            cases k with
            | succ k =>
              have hsz2 : b < wr.heap.size := hE2.blk.lt
              have hc2 := hE2.blk.cell 0
              have hf2 := hE2.blk.frozen 0
              go_wp2_with fail
              have hlp : (L ++ pre).length + 1 ≤ 1000000000 := by simp; omega
              have hn1 : ((L ++ pre).length + 1) * 1 ≤ 140737488355328 := by omega
              have hn2 : (L ++ pre).length + 1 ≤ maxLen := by unfold maxLen; omega
              have hn3 : base ≤ wr.heap.size + 1 := by have := hE2.le; omega
              have Hbv : Hid (byv (L ++ pre) ++ [.int .u8 (bits BinOp.or IntKind.u8 (IntKind.u8.wrap ((x : Int) / 2 ^ (7 * ((k : Int) + 1)).toNat)) 128)] = byv (L ++ (pre ++ [UInt8.ofNat (x / 2 ^ (7 * (k + 1)) % 128 + 128)]))) := by
                refine Lib.hid ?_
                rw [enc_or (x / 2 ^ (7 * (k + 1))) _ (by rw [show (7 * ((k : Int) + 1)).toNat = 7 * (k + 1) by omega]; push_cast; rfl)]
                simp [byv]
              generalize hy : UInt8.ofNat (x / 2 ^ (7 * (k + 1)) % 128 + 128) = y at *
              have Hy := Lib.hid hy
              clear hy
              have hap2 := hE2.apart
              go_region_law (refine step_app rfl rfl ei_byte base rfl (World.ownsRow.alloc hE2.own _) [.int .u8 (bits BinOp.or IntKind.u8 (IntKind.u8.wrap ((x : Int) / 2 ^ (7 * ((k : Int) + 1)).toNat)) 128)] rfl rfl (Blk.new wr _ _) rfl hn1 hn2 (by simpa using hn3) ?_; intro v' w1 ho1 hk1; rw [Hbv.out] at ho1; obtain ⟨ao', cap', rfl, _, _, _, _⟩ := Sl.of_own ho1; have hb1 := hE2.held _ _ rfl hk1; have hc1 := hb1.cell 0; have hf1 := hb1.frozen 0; simp only [List.getElem?_toArray, List.getElem?_cons_zero] at hc1)
              all_goals
                have hmore := EncTo.more hE2 _ _ rfl hk1 (l' := L ++ (pre ++ [y])) (by simpa [Nat.add_assoc] using ho1)
                obtain ⟨v3, hE3, hO3⟩ := EncTo.trans hO2 hmore
                go_wp2_with fail
                refine ⟨⟨k, pre ++ [y], by omega, by go_num, ?_, by simp; omega, v3, hE3, hO3⟩, by simp [intOf]; omega⟩
                refine Lib.hid ?_
                rw [hpre.out, ← Hy.out, List.append_assoc]
                rfl
            | zero =>
              obtain ⟨y, hy⟩ : ∃ y, y = UInt8.ofNat (x % 128) := ⟨_, rfl⟩
              have hrest : Hid (Wire.num x = pre ++ [y]) := by refine Lib.hid ?_; rw [hpre.out, hy]; rfl
              have hlp : (L ++ pre).length + 1 ≤ 1000000000 := by simp; omega
              have hn1 : ((L ++ pre).length + 1) * 1 ≤ 140737488355328 := by omega
              have hn2 : (L ++ pre).length + 1 ≤ maxLen := by unfold maxLen; omega
              have hn3 : base ≤ wr.heap.size + 1 := by have := hE2.le; omega
              have hc2 := hE2.blk.cell 0
              have hf2 := hE2.blk.frozen 0
              have hap2 := hE2.apart
              have Hbv : Hid (byv (L ++ pre) ++ [.int .u8 (bits BinOp.and IntKind.u64 (x : Int) 127 % 256)] = byv (L ++ (pre ++ [y]))) := by
                refine Lib.hid ?_
                rw [enc_and x (by omega), hy]
                have : x % 128 % 256 = x % 128 := by omega
                simp [byv]
              have Hy := Lib.hid hy
              clear hy hpre
              go_wp2_with (at_builtin; refine wpl_app rfl rfl ei_byte base rfl (hE2.own.alloc _) [.int .u8 (bits BinOp.and IntKind.u64 (x : Int) 127 % 256)] rfl rfl (Blk.new wr _ _) rfl hn1 hn2 (by simpa using hn3) ?_; intro v' w1 ho1 hk1; rw [Hbv.out] at ho1; obtain ⟨ao', cap', rfl, _, _, _, _⟩ := Sl.of_own ho1; have hb1 : Blk w1 b #[v2] 46 := Blk.keep (hE2.blk.alloc _) hk1 hap2; have hc1 := hb1.cell 0; have hf1 := hb1.frozen 0; simp only [List.getElem?_toArray, List.getElem?_cons_zero] at hc1)
              have hmore := EncTo.more' hE2 _ _ hk1 (l' := L ++ (pre ++ [y])) (by simpa [Nat.add_assoc] using ho1)
              obtain ⟨v3, hE3, hO3⟩ := EncTo.trans hO2 hmore
              have e5 : l ++ (ls.take (j + 1)).flatMap Wire.num = L ++ (pre ++ [y]) := by
                rw [take_snoc' ls j hjl, List.flatMap_append, ← HL.out, ← hrest.out, ← Hx.out]
                simp
              refine ⟨⟨j + 1, by omega, by go_num, v3, by rw [e5]; exact hE3, hO3⟩, by simp [intOf]; omega⟩
    · obtain rfl : j = len := by omega
      have ht : ls.take j = ls := List.take_of_length_le (by have := Hlen.out; omega)
      rw [ht] at hE1
      clear ht
      go_wp2_with fail
      go_ret
      exact ⟨rfl, v1, hE1, hO1⟩
end Go.Proofs.Ytloimgmifalpnaa
