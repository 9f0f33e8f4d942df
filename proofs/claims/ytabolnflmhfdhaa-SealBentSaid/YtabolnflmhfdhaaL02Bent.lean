/- SealBent: up to four bytes in a row that are others are told. No condition. -/
import Derived.Test.YtabolnflmhfdhaaL02Torn
import Derived.Test.YtabolnflmhfdhaaSealPure4
import Derived.RegionTactic
set_option linter.unusedSimpArgs false
set_option linter.unusedVariables false
namespace Go.Proofs.Ytabolnflmhfdhaa
open Go.RowKit

theorem pl_step (l : List (List UInt8)) (i : Nat) (h : i < l.length) : Seal.pl l (i + 1) = Seal.pl l i + 8 + (l[i]).length := by
  unfold Seal.pl
  rw [take_snoc' l i h, frames_snoc, List.length_append, Seal.frame_length]
  omega
theorem pl_le (l : List (List UInt8)) (i : Nat) : Seal.pl l i ≤ (Seal.frames l).length := by
  unfold Seal.pl
  have e : Seal.frames l = Seal.frames (l.take i) ++ Seal.frames (l.drop i) := by unfold Seal.frames; rw [← List.flatMap_append, List.take_append_drop]
  rw [e, List.length_append]
  omega
/-- block g bears these bytes first, and they may be written -/
def Bts (w : World) (g : Nat) (l : List UInt8) : Prop :=
  ∃ cs T lo hi, w.heap[g]? = some (.cells cs T (lo, hi)) ∧ l.length ≤ lo ∧ ∀ j (h : j < l.length), cs[j]? = some (.int .u8 (l[j].toNat : Int))
theorem Bts.cell {w : World} {g : Nat} {l : List UInt8} (h : Bts w g l) (j : Nat) (hj : j < l.length) : w.cell? ⟨g, j, none⟩ = some (.int .u8 (l[j].toNat : Int)) := by
  obtain ⟨cs, T, lo, hi, h1, _, h3⟩ := h
  simp [World.cell?, h1, h3 j hj]
theorem Bts.frozen {w : World} {g : Nat} {l : List UInt8} (h : Bts w g l) (j : Nat) (hj : j < l.length) : w.frozen? ⟨g, j, none⟩ = false := by
  obtain ⟨cs, T, lo, hi, h1, h2, _⟩ := h
  simp [World.frozen?, h1]
  omega
theorem Bts.set {w : World} {g : Nat} {l : List UInt8} (h : Bts w g l) (j : Nat) (b : UInt8) : Bts (w.setCell ⟨g, j, none⟩ (.int .u8 (b.toNat : Int))) g (l.set j b) := by
  obtain ⟨cs, T, lo, hi, h1, h2, h3⟩ := h
  refine ⟨cs.setIfInBounds j (.int .u8 (b.toNat : Int)), T, lo, hi, by simp [World.setCell, Array.getElem?_modify, h1], by simpa using h2, ?_⟩
  intro i hi
  have hi' : i < l.length := by simpa using hi
  have := h3 i hi'
  have hc : i < cs.size := (Array.getElem?_eq_some_iff.1 this).1
  rw [Array.getElem?_setIfInBounds, List.getElem_set]
  by_cases e : j = i
  · subst e
    simp [hc]
  · rw [if_neg e, if_neg e]
    exact this
theorem Bts.lt {w : World} {g : Nat} {l : List UInt8} (h : Bts w g l) : g < w.heap.size := by
  obtain ⟨cs, T, lo, hi, h1, _, _⟩ := h
  exact (Array.getElem?_eq_some_iff.1 h1).1
theorem Bts.new (w : World) (s : ByteArray) (cap : Nat) (T : TypeId) (lo hi : Nat) (h : lo = (bytesRow s cap).size) : Bts (w.alloc (.cells (bytesRow s cap) T (lo, hi))) w.heap.size s.data.toList := by
  refine ⟨bytesRow s cap, T, lo, hi, by unfold World.alloc; simp, ?_, ?_⟩
  · rw [h]; simp [bytesRow]
  · intro j hj
    have hj' : j < s.data.size := by simpa using hj
    have h2 : j < s.size := hj'
    simp [bytesRow, Array.getElem?_append, h2, hj']

/-- the byte that turns the k-th of them -/
def eK (by_ : Nat) (k : Nat) : UInt8 := UInt8.ofNat (by_ / 2 ^ (8 * k))
theorem eK_toNat (y k : Nat) : (eK y k).toNat = y / 2 ^ (8 * k) % 256 := by unfold eK; rw [UInt8.toNat_ofNat']
theorem eK_cast (y k : Nat) : ((y : Int) / 2 ^ (8 * k) % 256) = (((eK y k).toNat : Nat) : Int) := by rw [eK_toNat]; simp
theorem eK_xor (b : UInt8) (y k : Nat) : bits .xor .u8 (b.toNat : Int) ((y : Int) / 2 ^ (8 * k) % 256) = (((b ^^^ eK y k).toNat : Nat) : Int) := by
  rw [eK_cast, u8_xor_nat _ _ b.toNat_lt (eK y k).toNat_lt, UInt8.toNat_xor]
theorem eK_ne (y k : Nat) : (((y : Int) / 2 ^ (8 * k) % 256) != 0) = (eK y k != 0) := by
  rw [eK_cast]
  by_cases h : eK y k = 0
  · rw [h]; rfl
  · have h2 : (eK y k).toNat ≠ 0 := fun e => h (UInt8.toNat_inj.1 (by rw [e]; rfl))
    have h3 : ((((eK y k).toNat : Nat) : Int) != 0) = true := by rw [bne_iff_ne]; omega
    have h4 : (eK y k != 0) = true := by rw [bne_iff_ne]; exact h
    rw [h3, h4]
def chg (by_ : Nat) : Nat → Bool
  | 0 => false
  | k + 1 => chg by_ k || (eK by_ k != 0)
theorem chg_iff (by_ k : Nat) : chg by_ k = true ↔ ∃ j, j < k ∧ eK by_ j ≠ 0 := by
  induction k with
  | zero => simp [chg]
  | succ k ih =>
    simp only [chg, Bool.or_eq_true, ih, bne_iff_ne]
    constructor
    · rintro (⟨j, h1, h2⟩ | h)
      · exact ⟨j, by omega, h2⟩
      · exact ⟨k, by omega, h⟩
    · rintro ⟨j, h1, h2⟩
      by_cases e : j = k
      · exact Or.inr (e ▸ h2)
      · exact Or.inl ⟨j, by omega, h2⟩

set_option maxRecDepth 100000 in
set_option maxHeartbeats 4000000 in
theorem SealBent_walk (W : World) (v0 v1 v2 v3 v4 : Value) (x0 : (Kd.slice .str).den) (w0 : (Kd.slice .str).Arg W v0 x0) (x1 : (Kd.int .i64).den) (w1 : (Kd.int .i64).Arg W v1 x1)
    (x2 : (Kd.int .i64).den) (w2 : (Kd.int .i64).Arg W v2 x2) (x3 : Kd.bool.den) (w3 : Kd.bool.Arg W v3 x3) (x4 : (Kd.int .u32).den) (w4 : (Kd.int .u32).Arg W v4 x4) :
    Calls Try.prog 6 #[v0, v1, v2, v3, v4] W (Done W) := by
  obtain ⟨xs, rfl⟩ : ∃ xs : List ByteArray, xs = x0 := ⟨_, rfl⟩
  obtain ⟨wh, rfl⟩ : ∃ n : Int, n = x1 := ⟨_, rfl⟩
  obtain ⟨at_, rfl⟩ : ∃ n : Int, n = x2 := ⟨_, rfl⟩
  obtain ⟨sm, rfl⟩ : ∃ n : Bool, n = x3 := ⟨_, rfl⟩
  obtain ⟨by_, rfl⟩ : ∃ n : Int, n = x4 := ⟨_, rfl⟩
  obtain ⟨ao, ca, rfl, hla, hsa, sla, hpa⟩ := strs_arg w0
  obtain ⟨rfl, _⟩ := w1
  obtain ⟨rfl, wa⟩ := w2
  obtain rfl := w3
  obtain ⟨rfl, wb⟩ := w4
  have hby : 0 ≤ by_ ∧ by_ ≤ 4294967295 := by simpa [Lit.wf, IntKind.min, IntKind.max, IntKind.signed, IntKind.bits] using wb
  obtain ⟨wa1, wa2⟩ := wf_i64 wa
  clear w0 wa wb hpa
  have La := Lib.hid (fun w h => laid_any (.slice ao xs.length ca) xs.length xs w h hsa)
  have Sa := Lib.hid sla
  clear sla hsa
  have za := frames_small (laidT xs) (laid_small xs)
  have LA := Lib.hid (laid_length xs)
  have SM := Lib.hid (laid_small xs)
  have lA6 : (laidT xs).length ≤ 6 := by rw [LA.out]; omega
  have hz1 : (bs (Seal.frames (laidT xs))).size ≤ 348 := by rw [bs_size]; omega
  clear za
  (go_enter Try.func6, Try.ntmps6)
  go_wp2_with fail
  refine (La.out _ (by exact Sa.out _ (Below.refl _ _))).mono ?_; rintro e w1 ⟨x, rfl, ho1, hB1⟩
  go_wp2_with fail
  refine (awake_any _).mono ?_; rintro e w4 ⟨rfl, hb⟩
  have hB4 := hB1.trans (hb.mono hB1.size)
  have hx := own_keep ho1 (only_of_below hb (fun _ => False)) (fun _ _ e => e)
  clear hB1 hb ho1
  generalize hA : laidT xs = A at *
  clear La Sa LA hA
  obtain ⟨axo, cx, rfl, _, _, _, hxc⟩ := Sl.of_own hx
  by_cases c : 0 ≤ wh ∧ wh < A.length ∧ 0 ≤ at_
  · obtain ⟨c1, c2, c3⟩ := c
    obtain ⟨i, rfl⟩ := Int.eq_ofNat_of_zero_le c1
    obtain ⟨a, rfl⟩ := Int.eq_ofNat_of_zero_le c3
    have hi : i < A.length := by omega
    have hpl := Seal.pl_lt A i hi
    obtain ⟨b, off, rfl, hbW, hcx⟩ := hxc (by omega)
    have d1 := hcx i (.int .i64 ((Seal.pl A (i + 1) : Nat))) (by rw [List.getElem?_map, ends_pl _ _ hi]; rfl)
    have d0 : 0 < i → w4.cell? ⟨b, off + (i - 1), none⟩ = some (.int .i64 ((Seal.pl A i : Nat))) := fun h0 => hcx (i - 1) _ (by rw [List.getElem?_map, ends_pl _ _ (by omega), show i - 1 + 1 = i by omega]; rfl)
    have D0 := Lib.hid d0
    clear d0 hcx
    go_upto_if 44 with (fail)
    go_cut [13] (fun v w => v = .int .i64 ((Seal.pl A i : Nat)) ∧ w = w4)
    case first =>
      by_cases i0 : i = 0
      · subst i0
        go_wp2_with fail
        go_meet
        case rel => exact ⟨by rw [Seal.pl_zero]; rfl, rfl⟩
      · have i1 : 0 < i := by omega
        have d0 := D0.out i1
        go_wp2_with fail
        go_meet
        case rel => exact ⟨rfl, rfl⟩
    case rest =>
      obtain ⟨rfl, rfl⟩ := hcut
      obtain ⟨p, hp⟩ : ∃ p, p = Seal.pl A i := ⟨_, rfl⟩
      obtain ⟨q, hq⟩ : ∃ q, q = Seal.pl A (i + 1) := ⟨_, rfl⟩
      have hfl : Seal.pl A (i + 1) = Seal.pl A i + 8 + (A[i]).length := pl_step A i hi
      have hend : Seal.pl A (i + 1) ≤ (bs (Seal.frames A)).size := pl_le A (i + 1)
      rw [← hp, ← hq] at hfl
      rw [← hq] at hend d1
      rw [← hp]
      have Hp := Lib.hid hp
      have Hq := Lib.hid hq
      have hpq : p + 8 ≤ q := by omega
      have Hfl := Lib.hid hfl
      clear hp hq hfl D0 hpl
      have i2 : (i : Int) < A.length := by omega
      go_wp2_with fail
      go_quiet (fail)
      go_upto_if 56 with (fail)
      go_cut [14, 15] (fun f t wx => ∃ lo hi : Nat, f = .int .i64 (lo) ∧ t = .int .i64 (hi) ∧ lo = (if sm then p + 4 else p + 8) ∧ hi = (if sm then p + 8 else q) ∧ Below W.heap.size W wx)
      case first =>
        cases sm with
        | true =>
          go_wp2_with fail
          go_meet
          case rel => exact ⟨p + 4, p + 8, by go_num, by go_num, rfl, rfl, below_drew hB4 _⟩
        | false =>
          go_wp2_with fail
          go_meet
          case rel => exact ⟨p + 8, q, by go_num, by go_num, rfl, rfl, below_drew hB4 _⟩
      case rest =>
        obtain ⟨lo, hi2, rfl, rfl, hlo, hhi, hB5⟩ := hcut
        have hlo1 : lo ≤ hi2 ∧ hi2 ≤ 348 := by cases sm <;> simp at hlo hhi <;> omega
        obtain ⟨hlo1, hlo2⟩ := hlo1
        have Hlo := Lib.hid hlo
        have Hhi := Lib.hid hhi
        clear hlo hhi hB4 d1
        by_cases c4 : hi2 - lo ≤ a
        · have c5 : (hi2 : Int) - lo ≤ a := by omega
          go_wp2_with fail
          go_ret
          exact ⟨rfl, hB5⟩
        · have c5 : (a : Int) < (hi2 : Int) - lo := by omega
          have kb := fun (w : World) => run_bytes_of_string (P := Try.prog) w 9 26 5 (bs (Seal.frames A)) Try.underlying9 Try.underlying26 Try.underlying5
          obtain ⟨y, rfl⟩ := Int.eq_ofNat_of_zero_le hby.1
          obtain ⟨hby1, hby2⟩ := hby
          go_wp2_with fail
          have hbt := Bts.new wc.drew (bs (Seal.frames A)) (grownCap wc (bs (Seal.frames A)).size 0 5) 5 (bytesRow (bs (Seal.frames A)) (grownCap wc (bs (Seal.frames A)).size 0 5)).size ((bytesRow (bs (Seal.frames A)) (grownCap wc (bs (Seal.frames A)).size 0 5)).size + 1) rfl
          rw [bs_toList] at hbt
          have hfs : (Seal.frames A).length = (bs (Seal.frames A)).size := rfl
          have Hfs := Lib.hid hfs
          clear hfs
          have hq2 : hi2 ≤ (bs (Seal.frames A)).size := by have h := Hhi.out; cases sm <;> simp at h <;> omega
          clear kb
          go_loopw [17, 18] (fun cv kv wr => ∃ k : Nat, k ≤ 4 ∧ (k = 0 ∨ lo + a + k ≤ hi2) ∧ kv = .int .i64 (k) ∧ cv = .bool (chg y k) ∧ Bts wr wc.heap.size (Seal.lay (Seal.frames A) (lo + a) (Seal.bentX (Seal.frames A) (lo + a) (eK y) k)) ∧ Below W.heap.size W wr) (fun _ kv _ => 4 - (intOf kv).toNat)
          case atStart => exact ⟨0, by omega, Or.inl rfl, rfl, rfl, by rw [show Seal.bentX (Seal.frames A) (lo + a) (eK y) 0 = [] from rfl, Seal.lay_nil]; exact hbt, (hB5.drew).alloc (by exact hB5.size) _⟩
          case round =>
            obtain ⟨k, hk4, hkh, rfl, rfl, hbt, hB6⟩ := hrel
            by_cases hlk : k < 4 ∧ lo + a + k < hi2
            · obtain ⟨hk3, hkh2⟩ := hlk
              have hkf : (lo + a) + k < (Seal.frames A).length := by rw [Hfs.out]; omega
              have hxl := Seal.bentX_length (Seal.frames A) (lo + a) (eK y) k
              have hll := Seal.lay_length (Seal.frames A) (lo + a) (Seal.bentX (Seal.frames A) (lo + a) (eK y) k) (by omega)
              have hg := Seal.lay_get (Seal.frames A) (lo + a) (Seal.bentX (Seal.frames A) (lo + a) (eK y) k) (by omega) (by omega)
              have hsn := Seal.lay_snoc (Seal.frames A) (lo + a) (Seal.bentX (Seal.frames A) (lo + a) (eK y) k) ((Seal.frames A)[lo + a + k] ^^^ eK y k) (by omega)
              rw [← Seal.bentX_succ _ _ _ _ hkf] at hsn
              simp only [hxl] at hg hsn
              have hc := hbt.cell (lo + a + k) (by omega)
              have hf := hbt.frozen (lo + a + k) (by omega)
              have hset := hbt.set (lo + a + k) ((Seal.frames A)[lo + a + k] ^^^ eK y k)
              rw [hsn] at hset
              rw [hg] at hc
              generalize (Seal.frames A)[lo + a + k]'hkf = b0 at *
              clear hsn hg hxl hll
              have i3 : (lo : Int) + a + k < (bs (Seal.frames A)).size := by omega
              have i4 : lo + a + k < (bs (Seal.frames A)).size := by omega
              have hxr := Lib.hid (eK_xor b0 y k)
              have hne := Lib.hid (eK_ne y k)
              have Hset := Lib.hid hset
              have hg0 : W.heap.size ≤ wc.heap.size := hB5.size
              clear hset hbt
              rcases Bool.eq_false_or_eq_true (chg y k) with hch | hch
              · rw [hch]
                have Hch := Lib.hid hch
                clear hch
                go_wp2_with fail
                go_region
                go_wp2_with fail
                exact ⟨⟨k + 1, by omega, Or.inr (by omega), by go_num, by rw [chg, Hch.out]; rfl, by rw [hxr.out]; exact Hset.out, (hB6.setCell hg0 _).drew⟩, by simp [intOf]; omega⟩
              · rw [hch]
                have Hch := Lib.hid hch
                clear hch
                go_wp2_with fail
                go_region
                go_wp2_with fail
                exact ⟨⟨k + 1, by omega, Or.inr (by omega), by go_num, by rw [chg, Hch.out, Bool.false_or, hne.out], by rw [hxr.out]; exact Hset.out, (hB6.setCell hg0 _).drew⟩, by simp [intOf]; omega⟩
            · have hkm : k = 4 ∨ hi2 ≤ lo + a + k := by omega
              have hxl := Seal.bentX_length (Seal.frames A) (lo + a) (eK y) k
              have hll := Seal.lay_length (Seal.frames A) (lo + a) (Seal.bentX (Seal.frames A) (lo + a) (eK y) k) (by rw [hxl, Hfs.out]; omega)
              have hch := Lib.hid (chg_iff y k)
              obtain ⟨L, hL⟩ : ∃ L, L = Seal.lay (Seal.frames A) (lo + a) (Seal.bentX (Seal.frames A) (lo + a) (eK y) k) := ⟨_, rfl⟩
              rw [← hL] at hbt hll
              have HL := Lib.hid hL
              have hLn : L.length = (bs (Seal.frames A)).size := by rw [hll, Hfs.out]
              have hsc := seal_scan (bs L) (by rw [bs_size, hLn]; omega)
              have Hsc := Lib.hid hsc
              have HLn := Lib.hid hLn
              have hkh3 : k = 0 ∨ lo + a + k ≤ hi2 := hkh
              have FT : Hid (chg y k = true → Seal.scan (bs L).data.toList = (A.take i, p)) := by
                refine Lib.hid fun ht => ?_
                have hc := hch.out.1 ht
                have hk0 : k ≠ 0 := by
                  rintro rfl
                  obtain ⟨_, hj, _⟩ := hc
                  omega
                have hA : ∀ a ∈ A, a.length ≤ 1048576 := fun a h => Nat.le_trans (SM.out a h) (by decide)
                have h1 := Hlo.out
                have h2 := Hhi.out
                have h3 := Hfl.out
                rw [bs_toList, HL.out, Hp.out]
                cases sm with
                | true =>
                  simp at h1 h2
                  rw [show lo + a = Seal.pl A i + 4 + a by rw [← Hp.out]; omega]
                  exact Seal.scan_sum A i a k (eK y) hA hi (by omega) hc
                | false =>
                  simp at h1 h2
                  rw [show lo + a = Seal.pl A i + 8 + a by rw [← Hp.out]; omega]
                  exact Seal.scan_content A i a k (eK y) hA hi hk4 (by omega) hc
              have FF : Hid (chg y k = false → Seal.scan (bs L).data.toList = (A, (bs (Seal.frames A)).size)) := by
                refine Lib.hid fun ht => ?_
                have hle : lo + a + k ≤ (Seal.frames A).length := by rw [Hfs.out]; omega
                have hz : ∀ j, j < k → eK y j = 0 := by
                  intro j hj
                  by_cases e : eK y j = 0
                  · exact e
                  · have := hch.out.2 ⟨j, hj, e⟩
                    rw [ht] at this
                    cases this
                rw [bs_toList, HL.out, (Seal.bentX_same _ _ _ _ hle).2 hz, Seal.lay_same _ _ _ hle]
                have := scan_two A [] (SM.out) (by simp)
                rw [show Seal.frames [] = [] from rfl, List.append_nil, List.append_nil] at this
                exact this
              clear hL hxl hll hLn hsc
              by_cases hk4' : k < 4
              · have hh : (hi2 : Int) ≤ (lo : Int) + a + k := by omega
                go_wp2_with fail
                rw [conv_str (n := (bs (Seal.frames A)).size) (e := 5) L Try.underlying26 Try.underlying5 Try.underlying9 HLn.out (fun j hj => hbt.cell j hj)]
                go_wp2_with fail
                rcases Bool.eq_false_or_eq_true (chg y k) with ht | ht
                · have hs2 := Hsc.out
                  unfold ScanP at hs2
                  rw [FT.out ht, List.length_take, Nat.min_eq_left (by omega)] at hs2
                  have Hs2 := Lib.hid hs2
                  rw [ht]
                  clear hs2 ht FT FF Hsc hbt
                  refine (Hs2.out _).mono ?_; rintro e w7 ⟨l, rfl, hol, hb⟩
                  have hB7 := hB6.trans (hb.mono hB6.size)
                  obtain ⟨alo, cl, rfl, _, _, _, _⟩ := Sl.of_own hol
                  go_wp2_with fail
                  go_ret
                  exact ⟨rfl, hB7⟩
                · have hs2 := Hsc.out
                  unfold ScanP at hs2
                  rw [FF.out ht] at hs2
                  have Hs2 := Lib.hid hs2
                  rw [ht]
                  clear hs2 ht FT FF Hsc hbt
                  refine (Hs2.out _).mono ?_; rintro e w7 ⟨l, rfl, hol, hb⟩
                  have hB7 := hB6.trans (hb.mono hB6.size)
                  obtain ⟨alo, cl, rfl, _, _, _, _⟩ := Sl.of_own hol
                  go_wp2_with fail
                  go_ret
                  exact ⟨rfl, hB7⟩
              · skip
                go_wp2_with fail
                rw [conv_str (n := (bs (Seal.frames A)).size) (e := 5) L Try.underlying26 Try.underlying5 Try.underlying9 HLn.out (fun j hj => hbt.cell j hj)]
                go_wp2_with fail
                rcases Bool.eq_false_or_eq_true (chg y k) with ht | ht
                · have hs2 := Hsc.out
                  unfold ScanP at hs2
                  rw [FT.out ht, List.length_take, Nat.min_eq_left (by omega)] at hs2
                  have Hs2 := Lib.hid hs2
                  rw [ht]
                  clear hs2 ht FT FF Hsc hbt
                  refine (Hs2.out _).mono ?_; rintro e w7 ⟨l, rfl, hol, hb⟩
                  have hB7 := hB6.trans (hb.mono hB6.size)
                  obtain ⟨alo, cl, rfl, _, _, _, _⟩ := Sl.of_own hol
                  go_wp2_with fail
                  go_ret
                  exact ⟨rfl, hB7⟩
                · have hs2 := Hsc.out
                  unfold ScanP at hs2
                  rw [FF.out ht] at hs2
                  have Hs2 := Lib.hid hs2
                  rw [ht]
                  clear hs2 ht FT FF Hsc hbt
                  refine (Hs2.out _).mono ?_; rintro e w7 ⟨l, rfl, hol, hb⟩
                  have hB7 := hB6.trans (hb.mono hB6.size)
                  obtain ⟨alo, cl, rfl, _, _, _, _⟩ := Sl.of_own hol
                  go_wp2_with fail
                  go_ret
                  exact ⟨rfl, hB7⟩
  · by_cases c1 : wh < 0
    · go_wp2_with fail
      refine (awake_any _).mono ?_; rintro e w5 ⟨rfl, hb⟩
      have hB5 := hB4.trans (hb.mono hB4.size)
      go_wp2_with fail
      go_ret
      exact ⟨rfl, hB5⟩
    · by_cases c2 : (A.length : Int) ≤ wh
      · go_wp2_with fail
        refine (awake_any _).mono ?_; rintro e w5 ⟨rfl, hb⟩
        have hB5 := hB4.trans (hb.mono hB4.size)
        go_wp2_with fail
        go_ret
        exact ⟨rfl, hB5⟩
      · have c3 : at_ < 0 := by omega
        have c2' : wh < (A.length : Int) := by omega
        go_wp2_with fail
        refine (awake_any _).mono ?_; rintro e w5 ⟨rfl, hb⟩
        have hB5 := hB4.trans (hb.mono hB4.size)
        go_wp2_with fail
        go_ret
        exact ⟨rfl, hB5⟩
namespace SealBent
open Go.ChangeShapes Go.WideShapes Go.ChangeAt Go.RowKit
set_option linter.unusedVariables false
theorem own : ownKnob Try.prog.godebug = none := by kernel_rfl
theorem laidOut : laidOutB Try.prog = true := by kernel_rfl
set_option maxRecDepth 100000 in
theorem lifted (os : Os) (started : os.Started) (H : Type) (enc : TypeId × Value → H) :
    ReturnsInHanded {} Try.checked os 6 .any (Rows.sealBentSpec.pre6 enc Try.prog Try.f6 Rows.sealBentRow.domain false) (Rows.sealBentSpec.post enc Try.prog Try.f6 false true false false) := by
  refine returnsInHanded_of_change (C := Try.checked) own started (by kernel_rfl) Try.func6
    (ChangeSpec.witness6 (enc := enc) (C := Try.checked) false ⟨#[], #[.slice none 0 0, .int .i64 0, .int .i64 0, .bool false, .int .u32 0], []⟩ 8 (by kernel_rfl) (by kernel_rfl) (by kernel_rfl) (by kernel_rfl)) ?_
  intro W base args ds gs before hval0 hW hcnd _
  have hval : ∀ (j : Nat) t v, Try.f6.params[j]? = some t → args[j]? = some v → Value.okWide Try.prog W .any base t v := hval0
  have hW' := hW
  obtain ⟨p, q, hA0, hV, rfl, hfz, hnd⟩ := hW
  have hA : DataW.TrodAll enc Try.prog W 0 (fun _ => true) true Try.f6.params.toList args.toList ds p := hA0
  rw [Try.params6] at hA hval
  obtain ⟨v0, vs0, d0, ds0, p0, q0, hargs, rfl, rfl, h0, r0⟩ := trodAll_cons hA
  obtain ⟨v1, vs1, d1, ds1, p1, q1, rfl, rfl, rfl, h1, r1⟩ := trodAll_cons r0
  obtain ⟨v2, vs2, d2, ds2, p2, q2, rfl, rfl, rfl, h2, r2⟩ := trodAll_cons r1
  obtain ⟨v3, vs3, d3, ds3, p3, q3, rfl, rfl, rfl, h3, r3⟩ := trodAll_cons r2
  obtain ⟨v4, vs4, d4, ds4, p4, q4, rfl, rfl, rfl, h4, r4⟩ := trodAll_cons r3
  obtain ⟨rfl, rfl, rfl⟩ := trodAll_nil r4
  obtain rfl : args = #[v0, v1, v2, v3, v4] := by cases args; simp_all
  obtain ⟨rfl, rfl⟩ := trodVars_none hV
  have lt0 : ∀ x ∈ p0, x.block < W.heap.size := by obtain ⟨m, hm⟩ := h0; exact DataW.trod_lt m _ _ _ hm
  obtain ⟨x0, w0⟩ := arg_open (Kd.slice .str) h0 (hval 0 _ v0 rfl rfl) (by kernel_rfl)
  have lt1 : ∀ x ∈ p1, x.block < W.heap.size := by obtain ⟨m, hm⟩ := h1; exact DataW.trod_lt m _ _ _ hm
  obtain ⟨x1, w1⟩ := arg_open (Kd.int .i64) h1 (hval 1 _ v1 rfl rfl) (by kernel_rfl)
  have lt2 : ∀ x ∈ p2, x.block < W.heap.size := by obtain ⟨m, hm⟩ := h2; exact DataW.trod_lt m _ _ _ hm
  obtain ⟨x2, w2⟩ := arg_open (Kd.int .i64) h2 (hval 2 _ v2 rfl rfl) (by kernel_rfl)
  have lt3 : ∀ x ∈ p3, x.block < W.heap.size := by obtain ⟨m, hm⟩ := h3; exact DataW.trod_lt m _ _ _ hm
  obtain ⟨x3, w3⟩ := arg_open (Kd.bool) h3 (hval 3 _ v3 rfl rfl) (by kernel_rfl)
  have lt4 : ∀ x ∈ p4, x.block < W.heap.size := by obtain ⟨m, hm⟩ := h4; exact DataW.trod_lt m _ _ _ hm
  obtain ⟨x4, w4⟩ := arg_open (Kd.int .u32) h4 (hval 4 _ v4 rfl rfl) (by kernel_rfl)
  clear hA0 hval0
  refine (SealBent_walk W v0 v1 v2 v3 v4 x0 w0 x1 w1 x2 w2 x3 w3 x4 w4).mono fun e W' ⟨he, bel⟩ => ?_
  subst he
  exact ⟨_, rfl, _, _, _, [], _, [], hW', trodAll_mk1 (shut_bool (by kernel_rfl) _), (trodAll_cons_mk (Below.trod laidOut (by kernel_rfl) (of_decide_eq_true (by kernel_rfl)) h0 bel lt0) (trodAll_cons_mk (Below.trod laidOut (by kernel_rfl) (of_decide_eq_true (by kernel_rfl)) h1 bel lt1) (trodAll_cons_mk (Below.trod laidOut (by kernel_rfl) (of_decide_eq_true (by kernel_rfl)) h2 bel lt2) (trodAll_cons_mk (Below.trod laidOut (by kernel_rfl) (of_decide_eq_true (by kernel_rfl)) h3 bel lt3) (trodAll_cons_mk (Below.trod laidOut (by kernel_rfl) (of_decide_eq_true (by kernel_rfl)) h4 bel lt4) trodAll_mk0))))), rfl, bel.frame _, fun h => by cases h⟩

theorem over : Rows.sealBentRow.holds Try.pinned (OpenSpec.ofChange Rows.sealBentSpec) :=
  OpenClaim.holds_of_wide 6 Try.f6 rfl rfl rfl rfl rfl rfl rfl ⟨rfl, rfl, rfl, rfl, rfl⟩ rfl rfl rfl rfl rfl (by kernel_rfl) Try.func6 (by kernel_rfl)
    (of_decide_eq_true (by kernel_rfl)) (by unfold Func.isWrapper; rw [if_neg (of_decide_eq_false (by kernel_rfl))]; exact ⟨rfl, rfl⟩)
    (fun os started H enc _ => lifted os started H enc)
/-- THE STATEMENT. -/
theorem proved : Rows.SealBentSaid := over
#print axioms proved
end SealBent
end Go.Proofs.Ytabolnflmhfdhaa
