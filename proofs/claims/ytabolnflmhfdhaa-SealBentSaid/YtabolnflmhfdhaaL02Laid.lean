/- Texts laid as frames, one behind the other, and where each ends. No condition. -/
import Derived.Test.YtabolnflmhfdhaaL02A
set_option linter.unusedSimpArgs false
set_option linter.unusedVariables false
namespace Go.Proofs.Ytabolnflmhfdhaa
open Go.RowKit

theorem ei_int : EI Try.prog 34 3 (.int .i64 0) 1 8 := EI.mk' Try.underlying34 (by kernel_rfl) rfl (by decide)

/-- what is laid: at most 6 texts of at most 50 bytes -/
def laidT (xs : List ByteArray) : List (List UInt8) := (xs.take 6).map (fun x => x.data.toList.take 50)
/-- where each ends -/
def endsT (l : List (List UInt8)) : List Nat := (List.range l.length).map fun i => (Seal.frames (l.take (i + 1))).length
def LaidP (xs : List ByteArray) (w : World) (e : Ending) (w' : World) : Prop :=
  ∃ v, e = .returned (.tuple #[.string (bs (Seal.frames (laidT xs))), v]) ∧ w'.ownsRow w.heap.size 3 1 v (laidT xs).length ((endsT (laidT xs)).map fun (n : Nat) => Value.int .i64 n) ∧ Below w.heap.size w w'

theorem laid_length (xs : List ByteArray) : (laidT xs).length = min 6 xs.length := by simp [laidT]
theorem laid_take (xs : List ByteArray) (k : Nat) (h : k < xs.length) (h6 : k < 6) : (laidT xs).take (k + 1) = (laidT xs).take k ++ [xs[k].data.toList.take 50] := by
  rw [take_snoc' (laidT xs) k (by rw [laid_length]; omega)]
  simp [laidT]
theorem ends_take (l : List (List UInt8)) (k : Nat) (h : k < l.length) : endsT (l.take (k + 1)) = endsT (l.take k) ++ [(Seal.frames (l.take (k + 1))).length] := by
  unfold endsT
  rw [List.length_take, List.length_take, Nat.min_eq_left (by omega), Nat.min_eq_left (by omega), List.range_succ, List.map_append]
  congr 1
  · apply List.map_congr_left
    intro i hi
    have : i < k := by simpa using hi
    rw [List.take_take, List.take_take, Nat.min_eq_left (by omega), Nat.min_eq_left (by omega)]
  · simp [List.take_take]
theorem frames_snoc (l : List (List UInt8)) (a : List UInt8) : Seal.frames (l ++ [a]) = Seal.frames l ++ Seal.frame a := by simp [Seal.frames]
theorem laid_small (xs : List ByteArray) : ∀ a ∈ laidT xs, a.length ≤ 50 := by
  intro a ha
  obtain ⟨x, _, rfl⟩ := List.mem_map.1 ha
  simp; omega
theorem frames_small (l : List (List UInt8)) (h : ∀ a ∈ l, a.length ≤ 50) : (Seal.frames l).length ≤ 58 * l.length := by
  induction l with
  | nil => simp [Seal.frames]
  | cons a l ih =>
    have h1 := h a (by simp)
    have h2 := ih (fun b hb => h b (by simp [hb]))
    have : (Seal.frames (a :: l)).length = 8 + a.length + (Seal.frames l).length := by simp [Seal.frames, Seal.frame_length]
    rw [this]
    simp
    omega

set_option maxHeartbeats 4000000 in
theorem laid_any (v : Value) (n : Nat) (xs : List ByteArray) (w : World) (h : Sl w v n 1 (xs.map .string)) (hs : ∀ x ∈ xs, x.size ≤ maxLen) : Calls Try.prog 14 #[v] w (LaidP xs w) := by
  obtain ⟨ao, cap, rfl, h1, h2, hn, h3⟩ := h
  obtain rfl : n = xs.length := by simpa using hn.symm
  clear hn
  have h4 : xs.length ≤ 9223372036854775807 := by unfold maxLen at h2; omega
  generalize hlen : xs.length = len at *
  have Hlen := Lib.hid hlen
  clear hlen h2
  (go_enter Try.func14, Try.ntmps14)
  go_wp2_with fail
  go_loopw [4, 5, 6] (fun sv v i wr => ∃ k : Nat, k ≤ len ∧ k ≤ 6 ∧ i = .int .i64 (k) ∧ sv = .string (bs (Seal.frames ((laidT xs).take k))) ∧ wr.ownsRow w.heap.size 3 1 v k ((endsT ((laidT xs).take k)).map fun (n : Nat) => Value.int .i64 n) ∧ Below w.heap.size w wr) (fun _ _ i _ => len - (intOf i).toNat)
  case atStart => exact ⟨0, by omega, by omega, rfl, rfl, World.ownsRow_lit _ #[] 0 (Nat.le_refl _) (by decide) rfl, (Below.refl _ _).alloc (Nat.le_refl _) _⟩
  case round =>
    obtain ⟨k, hk, hk6, rfl, rfl, hown, hB⟩ := hrel
    by_cases hlt : k < len ∧ k < 6
    · obtain ⟨q1, q2⟩ := hlt
      obtain ⟨b, off, rfl, hbW, hcell⟩ := h3 (by omega)
      have hkx : k < xs.length := by have := Hlen.out; omega
      have hc0 := hcell k (.string xs[k]) (by simp [hkx])
      have hc := (hB.cell (p := ⟨b, off + k, none⟩) hbW).trans hc0
      have hsz := hs _ (List.getElem_mem hkx)
      have hlt1 := laid_take xs k hkx q2
      have het := ends_take (laidT xs) k (by rw [laid_length]; omega)
      have hfs := frames_small ((laidT xs).take k) (fun a ha => laid_small xs a (List.mem_of_mem_take ha))
      have hfl : ((laidT xs).take k).length = k := by rw [List.length_take, laid_length]; omega
      rw [hfl] at hfs
      obtain ⟨a, ha⟩ : ∃ a, a = xs[k].data.toList.take 50 := ⟨_, rfl⟩
      have hal : a.length ≤ 50 := by rw [ha]; simp; omega
      rw [← ha] at hlt1
      have cut := Lib.hid (cut_any xs[k] 50 50 rfl (bs a) (by rw [ha]) hsz)
      have hfr := fun (v : Value) (w : World) (h : Sl w v 1 1 [.string (bs a)]) (hz : ∀ l c, v = .slice none l c → c = 0) => seal_frame v 1 [bs a] w h (by simp [cat, bs_toList]; omega) (by decide) hz
      rw [show cat [bs a] = a by simp [cat, bs_toList]] at hfr
      have Hfr := Lib.hid hfr
      have ef : Hid (Seal.frames ((laidT xs).take (k + 1)) = Seal.frames ((laidT xs).take k) ++ Seal.frame a) := by refine Lib.hid ?_; rw [hlt1, frames_snoc]
      have el : Hid ((Seal.frames ((laidT xs).take (k + 1))).length = (Seal.frames ((laidT xs).take k)).length + (8 + a.length)) := by refine Lib.hid ?_; rw [ef.out, List.length_append, Seal.frame_length]
      have Het := Lib.hid het
      clear hfr het hlt1 ha hfl hsz hcell hc0 h3
      generalize Seal.frames ((laidT xs).take k) = fs at *
      have hz1 : (bs fs).size ≤ 348 := by rw [bs_size]; omega
      have hz2 : (bs (Seal.frame a)).size ≤ 58 := by rw [bs_size, Seal.frame_length]; omega
      have Hz3 : Hid ((bs fs).size + (bs (Seal.frame a)).size = fs.length + (8 + a.length)) := by refine Lib.hid ?_; rw [bs_size, bs_size, Seal.frame_length]
      go_wp2_with fail
      refine (cut.out _).mono ?_; rintro e w1 ⟨rfl, rfl⟩
      go_wp2_with fail
      refine (Hfr.out _ _ (by exact Sl.lit (Blk.new' (by simp)) (by decide) rfl) (by intro l c h; cases h)).mono ?_; rintro e w1 ⟨rfl, hb⟩
      have hB1 := (hB.alloc hB.size (.cells #[.string (bs a)] 9)).trans (hb.mono (Nat.le_trans hB.size (by simp)))
      have ho1 := own_keep (hown.alloc (.cells #[.string (bs a)] 9)) (only_of_below hb (fun _ => False)) (fun _ _ e => e)
      clear hB hown hb
      go_wp2_with (at_builtin; refine wpl_app rfl rfl ei_int w.heap.size rfl (ho1.alloc _) [.int .i64 (((bs fs).size : Int) + (bs (Seal.frame a)).size)] rfl rfl (Blk.new _ _ _) rfl (by omega) (by unfold maxLen; omega) (by have := hB1.size; simp; omega) ?_; intro v2 w2 ho2 hk2)
      have hB2 := below_many (hB1.alloc hB1.size (.cells #[.int .i64 (((bs fs).size : Int) + (bs (Seal.frame a)).size)] 3)) hk2 (own_ge ho1)
      refine ⟨⟨k + 1, by omega, by omega, by go_num, by rw [ef.out, bs_append], ?_, hB2⟩, by simp [intOf]; omega⟩
      rw [Het.out, List.map_append, el.out, ← Hz3.out]
      exact ho2
    · have hk2 : k = (laidT xs).length := by rw [laid_length]; have := Hlen.out; omega
      have ht : Hid ((laidT xs).take k = laidT xs) := by refine Lib.hid ?_; rw [hk2]; exact List.take_length
      have Hk2 := Lib.hid hk2
      rw [ht.out] at hown ⊢
      clear hk2
      by_cases q1 : k < len
      · have q2 : 6 ≤ k := by omega
        go_wp2_with fail
        go_ret2
        exact ⟨_, rfl, by rw [← Hk2.out]; exact hown, hB⟩
      · go_wp2_with fail
        go_ret2
        exact ⟨_, rfl, by rw [← Hk2.out]; exact hown, hB⟩
end Go.Proofs.Ytabolnflmhfdhaa
