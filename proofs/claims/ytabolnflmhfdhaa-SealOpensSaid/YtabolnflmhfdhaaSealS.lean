/- What Scan and Only of seal answer. -/
import Derived.Test.YtabolnflmhfdhaaSealF
set_option linter.unusedSimpArgs false
set_option linter.unusedVariables false
namespace Go.Proofs.Ytabolnflmhfdhaa
open Go.RowKit
set_option maxHeartbeats 1000000

/-- texts as a slice's cells -/
def strs (l : List (List UInt8)) : List Value := l.map fun a => .string (bs a)
/-- what Scan hands back -/
def ScanP (s : ByteArray) (w : World) (e : Ending) (w' : World) : Prop :=
  ∃ v, e = .returned (.tuple #[v, .int .i64 ((Seal.scan s.data.toList).2)]) ∧ w'.ownsRow w.heap.size 9 1 v (Seal.scan s.data.toList).1.length (strs (Seal.scan s.data.toList).1) ∧ Below w.heap.size w w'

theorem extract_drop (s : ByteArray) (a : Nat) : (s.extract a s.size).data.toList = s.data.toList.drop a := by
  rw [extract_bs, bs_toList]
  exact List.take_of_length_le (by simp)

theorem seal_open' (s : ByteArray) (hs : s.size ≤ 9223372036854775807) (l : List UInt8) (hl : s.data.toList = l) (x : List UInt8) (k q : Nat) (h : Seal.openL l = (x, k, q)) (w : World) :
    Calls Try.prog 16 #[.string s] w (Fresh (.tuple #[.string (bs x), .int .i64 (k), .int .i64 (q)]) w) := by
  have := seal_open s hs w
  unfold openV at this
  rw [hl, h] at this
  exact this

theorem seal_scan (s : ByteArray) (hs : s.size ≤ 1000000) (w : World) : Calls Try.prog 15 #[.string s] w (ScanP s w) := by
  (go_enter Try.func15, Try.ntmps15)
  go_wp2_with fail
  go_loopw [4, 5] (fun v i wr => ∃ (a : Nat) (L : List (List UInt8)), a ≤ s.size ∧ i = .int .i64 (a) ∧ L.length * 8 ≤ a ∧ Hid (Seal.scan s.data.toList = (L ++ (Seal.scan (s.data.toList.drop a)).1, a + (Seal.scan (s.data.toList.drop a)).2)) ∧
      wr.ownsRow w.heap.size 9 1 v L.length (strs L) ∧ Below w.heap.size w wr) (fun _ i _ => s.size - (intOf i).toNat)
  case atStart => exact ⟨0, [], by omega, rfl, by simp, by refine Lib.hid ?_; rw [List.drop_zero]; simp, World.ownsRow_nil _ _ _ _, Below.refl _ _⟩
  case round =>
    obtain ⟨a, L, ha, rfl, hL8, hscan, hown, hB⟩ := hrel
    obtain ⟨x, k, q, ho⟩ : ∃ x k q, Seal.openL (s.data.toList.drop a) = (x, k, q) := ⟨_, _, _, rfl⟩
    have hop := seal_open' (s.extract a s.size) (by rw [extract_bs, bs_size]; simp; omega) _ (extract_drop s a) x k q ho
    have Hop := Lib.hid hop
    clear hop
    by_cases hq : q = 0
    · subst hq
      obtain ⟨p1, p2⟩ := Seal.open_pos (s := s.data.toList.drop a) (by rw [ho])
      rw [ho] at p1 p2
      have hp3 : k + a ≤ s.size := by simp at p2; omega
      have hst := Seal.scan_step (s := s.data.toList.drop a) (by rw [ho])
      rw [ho] at hst
      have hscan2 : Hid (Seal.scan s.data.toList = ((L ++ [x]) ++ (Seal.scan (s.data.toList.drop (a + k))).1, (a + k) + (Seal.scan (s.data.toList.drop (a + k))).2)) := by
        refine Lib.hid ?_
        have := hscan.out
        rw [hst, List.drop_drop] at this
        rw [this]
        simp [Nat.add_assoc]
      have p1' : 8 ≤ k := p1
      clear hscan hst p1 p2
      have Ho := Lib.hid ho
      clear ho
      go_wp2_with fail
      refine (Hop.out _).mono ?_; rintro e w1 ⟨rfl, hB1⟩
      have hB2 := hB.trans (hB1.mono hB.size)
      have ho1 := own_keep hown (only_of_below hB1 (fun _ => False)) (fun _ _ e => e)
      clear hB hown hB1
      go_wp2_with (at_builtin; refine wpl_app rfl rfl ei_str w.heap.size rfl (ho1.alloc _) [.string (bs x)] rfl rfl (Blk.new _ _ _) rfl (by omega) (by unfold maxLen; omega) (by have := hB2.size; simp; omega) ?_; intro v' w2 ho2 hk2)
      have hB3 := below_many (hB2.alloc hB2.size (.cells #[.string (bs x)] 9)) hk2 (own_ge ho1)
      exact ⟨⟨a + k, L ++ [x], by omega, by go_num, by simp; omega, hscan2, by simpa [strs] using ho2, hB3⟩, by simp [intOf]; omega⟩
    · have hst := Seal.scan_stop (s := s.data.toList.drop a) (by rw [ho]; exact hq)
      have hscan2 : Hid (Seal.scan s.data.toList = (L, a)) := by
        refine Lib.hid ?_
        have := hscan.out
        rw [hst] at this
        rw [this]
        simp
      have hq' : ((q : Int) != 0) = true := by rw [bne_iff_ne]; omega
      have Ho := Lib.hid ho
      clear ho hq hscan hst
      go_wp2_with fail
      refine (Hop.out _).mono ?_; rintro e w1 ⟨rfl, hB1⟩
      have hB2 := hB.trans (hB1.mono hB.size)
      have ho1 := own_keep hown (only_of_below hB1 (fun _ => False)) (fun _ _ e => e)
      go_wp2_with fail
      go_ret2
      unfold ScanP
      rw [hscan2.out]
      exact ⟨_, rfl, ho1, hB2⟩

/-- what Only hands back -/
def onlyL (s : List UInt8) : List UInt8 × Nat := if (Seal.openL s).2.2 = 0 ∧ (Seal.openL s).2.1 < s.length then ([], 3) else ((Seal.openL s).1, (Seal.openL s).2.2)
theorem seal_only (s : ByteArray) (hs : s.size ≤ 9223372036854775807) (y : List UInt8) (r : Nat) (hy : onlyL s.data.toList = (y, r)) (w : World) : Calls Try.prog 13 #[.string s] w (Fresh (.tuple #[.string (bs y), .int .i64 (r)]) w) := by
  obtain ⟨x, k, q, ho⟩ : ∃ x k q, Seal.openL s.data.toList = (x, k, q) := ⟨_, _, _, rfl⟩
  have hop := seal_open' s hs _ rfl x k q ho
  have Hop := Lib.hid hop
  clear hop
  unfold onlyL at hy
  rw [ho] at hy
  have hl : s.data.toList.length = s.size := by simp
  rw [hl] at hy
  simp only at hy
  by_cases hq : q = 0
  · by_cases hk : k < s.size
    · rw [if_pos ⟨hq, hk⟩] at hy
      injection hy with h1 h2
      subst h1 h2 hq
      (go_enter Try.func13, Try.ntmps13)
      go_wp2_with fail
      refine (Hop.out _).mono ?_; rintro e w1 ⟨rfl, hB1⟩
      go_wp2_with fail
      go_ret2
      exact ⟨rfl, hB1⟩
    · rw [if_neg (fun h => hk h.2)] at hy
      injection hy with h1 h2
      subst h1 h2 hq
      (go_enter Try.func13, Try.ntmps13)
      go_wp2_with fail
      refine (Hop.out _).mono ?_; rintro e w1 ⟨rfl, hB1⟩
      go_wp2_with fail
      go_ret2
      exact ⟨rfl, hB1⟩
  · rw [if_neg (fun h => hq h.1)] at hy
    injection hy with h1 h2
    subst h1 h2
    have hq' : ((q : Int) == 0) = false := by rw [beq_eq_false_iff_ne]; omega
    clear hq
    have Ho := Lib.hid ho
    clear ho
    (go_enter Try.func13, Try.ntmps13)
    go_wp2_with fail
    refine (Hop.out _).mono ?_; rintro e w1 ⟨rfl, hB1⟩
    go_wp2_with fail
    go_ret2
    exact ⟨rfl, hB1⟩

theorem cut_any (s : ByteArray) (n : Int) (m : Nat) (hn : n = m) (t : ByteArray) (ht : t = bs (s.data.toList.take m)) (hs : s.size ≤ maxLen) (w : World) : Calls Try.prog 9 #[.string s, .int .i64 (n)] w (Same (.string t) w) := by
  have hs2 : s.size ≤ 9223372036854775807 := by unfold maxLen at hs; omega
  by_cases c : m < s.size
  · have e : t = s.extract 0 m := by rw [ht, extract_bs]; simp
    subst hn e
    clear ht hs
    (go_enter Try.func9, Try.ntmps9)
    go_wp2_with fail
    go_ret
    exact ⟨rfl, rfl⟩
  · have e : t = s := by rw [ht, List.take_of_length_le (by simp; omega), bs_of]
    subst hn e
    clear ht hs
    (go_enter Try.func9, Try.ntmps9)
    go_wp2_with fail
    go_ret
    exact ⟨rfl, rfl⟩
end Go.Proofs.Ytabolnflmhfdhaa
