/- What Frame, Open, Scan and Only of seal answer. -/
import Derived.Test.YtabolnflmhfdhaaSeal
set_option linter.unusedSimpArgs false
set_option linter.unusedVariables false
namespace Go.Proofs.Ytabolnflmhfdhaa
open Go.RowKit
set_option maxHeartbeats 1000000

theorem ei_str : EI Try.prog 33 9 (.string ⟨#[]⟩) 1 16 := EI.mk' Try.underlying33 (by kernel_rfl) rfl (by decide)

theorem seal_frame (v : Value) (n : Nat) (xs : List ByteArray) (w : World) (h : Sl w v n 1 (xs.map .string)) (hs : (cat xs).length ≤ 1000000) (hn3 : n ≤ 1000) (hz : ∀ l c, v = .slice none l c → c = 0) :
    Calls Try.prog 12 #[v] w (Fresh (.string (bs (Seal.frame (cat xs)))) w) := by
  have hv := Lib.hid h
  have Hz := Lib.hid hz
  clear hz
  obtain ⟨ao, cap, rfl, h1, h2, hn, h3⟩ := h
  obtain rfl : n = xs.length := by simpa using hn.symm
  clear hn
  generalize hlen : xs.length = len at *
  have Hlen := Lib.hid hlen
  clear hlen h2
  have hsum : Hid (∀ k (h : k < xs.length), (cat (xs.take k)).length + xs[k].size ≤ 1000000 ∧ (cat (xs.take (k + 1))).length = (cat (xs.take k)).length + xs[k].size) := by
    intro k hk
    have e := cat_take xs k hk
    have e2 : cat xs = cat (xs.take (k + 1)) ++ cat (xs.drop (k + 1)) := by unfold cat; rw [← List.flatMap_append, List.take_append_drop]
    have e3 : (cat (xs.take (k + 1))).length = (cat (xs.take k)).length + xs[k].size := by rw [e]; simp
    rw [e2, List.length_append] at hs
    exact ⟨by omega, e3⟩
  have HM : Hid (∀ x ∈ xs, x.size ≤ 1000000) := fun x hx => Nat.le_trans (cat_mem hx) hs
  (go_enter Try.func12, Try.ntmps12)
  go_wp2_with fail
  go_loop [3, 12] (fun c i => ∃ k : Nat, k ≤ len ∧ i = .int .i64 (k) ∧ c = .int .i64 ((cat (xs.take k)).length)) (fun _ i => len - (intOf i).toNat)
  case atStart => exact ⟨0, Nat.zero_le _, rfl, rfl⟩
  case round =>
    obtain ⟨k, hk, rfl, rfl⟩ := hrel
    by_cases hlt : k < len
    · obtain ⟨b, off, rfl, hbW, hcell⟩ := h3 (by omega)
      have hkx : k < xs.length := by have := Hlen.out; omega
      have hc := hcell k (.string xs[k]) (by simp [hkx])
      obtain ⟨b1, b2⟩ := hsum.out k (by have := Hlen.out; omega)
      have B2 := Lib.hid b2
      clear b2
      generalize xs[k] = s at *
      generalize (cat (xs.take k)).length = m at *
      clear hcell h3
      go_wp2_with fail
      exact ⟨⟨k + 1, by omega, by go_num, by rw [B2.out]; go_num⟩, by simp [intOf]; omega⟩
    · obtain rfl : k = len := by omega
      have ht : xs.take k = xs := by rw [← Hlen.out]; exact List.take_length
      rw [ht]
      clear ht
      generalize hm : (cat xs).length = m at *
      have Hm := Lib.hid hm
      clear hm
      go_wp2_with fail
      refine (seal_four m (by omega) _).mono ?_; rintro e w1 ⟨rfl, hB1⟩
      have ho1 := World.ownsRow_lit (base := w.heap.size) (e := 9) (size := 1) w1 #[.string (bs (Seal.four m))] 1 hB1.size (by decide) rfl
      go_wp2_with (at_builtin; refine wpl_app_sl rfl rfl ei_str w.heap.size rfl ho1 (xs.map .string) rfl (by exact hv.out.below (hB1.alloc hB1.size _)) Hz.out (by intro u hu; obtain ⟨_, _, rfl⟩ := List.mem_map.1 hu; rfl) (by omega) (by unfold maxLen; omega) (by simp; have := hB1.size; omega) ?_; intro v2 w2 ho2 hk2)
      have hB2 := below_many (hB1.alloc hB1.size (.cells #[.string (bs (Seal.four m))] 9)) hk2 (own_ge ho1)
      refine (seal_sum _ (1 + k) (bs (Seal.four m) :: xs) _ (by exact Sl.of_own ho2) ?_).mono ?_
      · intro x hx
        rcases List.mem_cons.1 hx with rfl | hx
        · show 4 ≤ maxLen
          decide
        · exact Nat.le_trans (HM.out x hx) (by unfold maxLen; omega)
      rintro e w3 ⟨rfl, rfl⟩
      have hq : cat (bs (Seal.four m) :: xs) = Seal.four m ++ cat xs := rfl
      have hlt := Seal.sumL_lt (Seal.four m ++ cat xs)
      rw [hq]
      clear hq
      generalize hsm : Seal.sumL (Seal.four m ++ cat xs) = sm at *
      have Hsm := Lib.hid hsm
      clear hsm ho1
      go_wp2_with fail
      refine (seal_four sm hlt _).mono ?_; rintro e w4 ⟨rfl, hB4⟩
      have hB3 := hB2.trans (hB4.mono hB2.size)
      go_wp2_with fail
      go_loop [7, 34] (fun c i => ∃ j : Nat, j ≤ k ∧ i = .int .i64 (j) ∧ c = .string (bs (Seal.four m ++ Seal.four sm ++ cat (xs.take j)))) (fun _ i => k - (intOf i).toNat)
      case atStart => exact ⟨0, Nat.zero_le _, rfl, by rw [bs_append]; simp [cat]⟩
      case round =>
        obtain ⟨j, hj, rfl, rfl⟩ := hrel
        by_cases hlj : j < k
        · obtain ⟨b, off, rfl, hbW, hcell⟩ := h3 (by omega)
          have hjx : j < xs.length := by have := Hlen.out; omega
          have hc0 := hcell j (.string xs[j]) (by simp [hjx])
          have hc := (hB3.cell (p := ⟨b, off + j, none⟩) hbW).trans hc0
          have hcat := Lib.hid (cat_take xs j hjx)
          have b1 := (hsum.out j hjx).1
          have Fin : Hid (bs (Seal.four m ++ Seal.four sm ++ cat (xs.take j)) ++ xs[j] = bs (Seal.four m ++ Seal.four sm ++ cat (xs.take (j + 1)))) := by
            rw [bs_app, hcat.out, List.append_assoc _ (cat _)]; rfl
          have bl : (bs (Seal.four m ++ Seal.four sm ++ cat (xs.take j))).size ≤ 1000008 := by rw [bs_size]; simp [Seal.four_length]; omega
          generalize bs (Seal.four m ++ Seal.four sm ++ cat (xs.take j)) = acc at *
          generalize xs[j] = s at *
          clear hcell h3 hc0
          go_wp2_with fail
          exact ⟨⟨j + 1, by omega, by go_num, by rw [← Fin.out]⟩, by simp [intOf]; omega⟩
        · obtain rfl : j = k := by omega
          have ht : xs.take j = xs := by rw [← Hlen.out]; exact List.take_length
          have hfr : Hid (bs (Seal.four m ++ Seal.four sm ++ cat xs) = bs (Seal.frame (cat xs))) := by
            unfold Seal.frame
            rw [Hm.out, Hsm.out]; rfl
          rw [ht]
          generalize bs (Seal.four m ++ Seal.four sm ++ cat xs) = acc at *
          clear ht h3
          go_wp2_with fail
          go_ret
          exact ⟨by rw [← hfr.out]; rfl, hB3⟩

/-- what Open hands back -/
def openV (s : ByteArray) : Value := .tuple #[.string (bs (Seal.openL s.data.toList).1), .int .i64 ((Seal.openL s.data.toList).2.1), .int .i64 ((Seal.openL s.data.toList).2.2)]

theorem seal_open (s : ByteArray) (hs : s.size ≤ 9223372036854775807) (w : World) : Calls Try.prog 16 #[.string s] w (Fresh (openV s) w) := by
  have hlen : s.data.toList.length = s.size := by simp
  by_cases c1 : s.size < 8
  · have e : openV s = .tuple #[.string ⟨#[]⟩, .int .i64 (0), .int .i64 (2)] := by unfold openV Seal.openL; rw [if_pos (by rw [hlen]; exact c1)]; rfl
    rw [e]
    clear e
    (go_enter Try.func16, Try.ntmps16)
    go_wp2_with fail
    go_ret3
    exact ⟨rfl, (by repeat' (first | exact Below.refl _ _ | assumption | refine Below.setCell ?_ (by first | omega | (simp; done) | (simp; omega)) _ | refine Below.alloc ?_ (by first | omega | (simp; done) | (simp; omega)) _ | refine below_drew ?_ _ | apply Below.drew))⟩
  · have hn0 := Seal.numb_lt s.data.toList
    have hnum := seal_number s (by omega)
    have Hnum := Lib.hid hnum
    clear hnum
    obtain ⟨n, hn⟩ : ∃ n, n = Seal.numb s.data.toList := ⟨_, rfl⟩
    rw [← hn] at Hnum hn0
    by_cases c2 : 1048576 < n
    · have e : openV s = .tuple #[.string ⟨#[]⟩, .int .i64 (0), .int .i64 (11)] := by unfold openV Seal.openL; rw [if_neg (by rw [hlen]; exact c1), if_pos (by rw [← hn]; exact c2)]; rfl
      rw [e]
      clear e hn
      (go_enter Try.func16, Try.ntmps16)
      go_wp2_with fail
      refine (Hnum.out _).mono ?_; rintro e w1 ⟨d1, rfl, rfl⟩
      go_wp2_with fail
      go_ret3
      exact ⟨rfl, below_drew (Below.refl _ _) _⟩
    · by_cases c3 : s.size - 8 < n
      · have e : openV s = .tuple #[.string ⟨#[]⟩, .int .i64 (0), .int .i64 (2)] := by unfold openV Seal.openL; rw [if_neg (by rw [hlen]; exact c1), if_neg (by rw [← hn]; exact c2), if_pos (by rw [← hn, hlen]; exact c3)]; rfl
        rw [e]
        clear e hn
        have c3' : (s.size : Int) - 8 < n := by omega
        (go_enter Try.func16, Try.ntmps16)
        go_wp2_with fail
        refine (Hnum.out _).mono ?_; rintro e w1 ⟨d1, rfl, rfl⟩
        go_wp2_with fail
        go_ret3
        exact ⟨rfl, below_drew (Below.refl _ _) _⟩
      · have c3' : (n : Int) ≤ (s.size : Int) - 8 := by omega
        have hn4 := seal_number (s.extract 4 s.size) (by rw [extract_bs, bs_size]; simp; omega)
        rw [show (s.extract 4 s.size).data.toList = s.data.toList.drop 4 by rw [extract_bs, bs_toList]; exact List.take_of_length_le (by simp)] at hn4
        have Hn4 := Lib.hid hn4
        have hm0 := Seal.numb_lt (s.data.toList.drop 4)
        clear hn4
        obtain ⟨m, hm⟩ : ∃ m, m = Seal.numb (s.data.toList.drop 4) := ⟨_, rfl⟩
        rw [← hm] at Hn4 hm0
        have hsu := fun (v : Value) (w : World) => seal_sum v 2 [s.extract 0 4, s.extract 8 (8 + n)] w
        have hq : cat [s.extract 0 4, s.extract 8 (8 + n)] = s.data.toList.take 4 ++ (s.data.toList.drop 8).take n := by
          rw [extract_bs, extract_bs]
          simp [cat, bs_toList]
        have hq0 := Seal.sumL_lt (s.data.toList.take 4 ++ (s.data.toList.drop 8).take n)
        rw [hq] at hsu
        obtain ⟨k, hk⟩ : ∃ k, k = Seal.sumL (s.data.toList.take 4 ++ (s.data.toList.drop 8).take n) := ⟨_, rfl⟩
        rw [← hk] at hsu hq0
        have Hsu := Lib.hid hsu
        have Hsz : Hid (∀ x ∈ [s.extract 0 4, s.extract 8 (8 + n)], x.size ≤ maxLen) := by
          intro x hx
          simp only [List.mem_cons, List.not_mem_nil, or_false] at hx
          unfold maxLen
          rcases hx with rfl | rfl
          · simp; omega
          · simp; omega
        clear hsu hq
        by_cases c4 : k = m
        · have e : openV s = .tuple #[.string (s.extract 8 (8 + n)), .int .i64 ((8 + n : Nat)), .int .i64 (0)] := by
            unfold openV Seal.openL
            rw [if_neg (by rw [hlen]; exact c1), if_neg (by rw [← hn]; exact c2), if_neg (by rw [← hn, hlen]; exact c3), if_pos (by rw [← hn, ← hk, ← hm]; exact c4), extract_bs, ← hn, Nat.add_sub_cancel_left]
            rfl
          rw [e]
          clear e hn hm hk hlen
          subst c4
          (go_enter Try.func16, Try.ntmps16)
          go_wp2_with fail
          refine (Hnum.out _).mono ?_; rintro e w1 ⟨d1, rfl, rfl⟩
          go_wp2_with fail
          go_region_with (first | (go_at_call 10; refine (Hsu.out _ _ (by exact Sl.lit (Blk.new _ _ _) (by decide) rfl) Hsz.out).mono ?_; rintro e w2 ⟨rfl, rfl⟩) | (go_at_call 24; refine (Hn4.out _).mono ?_; rintro e w2 ⟨d2, rfl, rfl⟩))
          all_goals
            go_wp2_with fail
            go_ret3
            exact ⟨by simp, (by repeat' (first | exact Below.refl _ _ | assumption | refine Below.setCell ?_ (by first | omega | (simp; done) | (simp; omega)) _ | refine Below.alloc ?_ (by first | omega | (simp; done) | (simp; omega)) _ | refine below_drew ?_ _ | apply Below.drew))⟩
        · have e : openV s = .tuple #[.string ⟨#[]⟩, .int .i64 (0), .int .i64 (4)] := by
            unfold openV Seal.openL
            rw [if_neg (by rw [hlen]; exact c1), if_neg (by rw [← hn]; exact c2), if_neg (by rw [← hn, hlen]; exact c3), if_neg (by rw [← hn, ← hk, ← hm]; exact c4)]
            rfl
          rw [e]
          clear e hn hm hk hlen
          have c4' : ((k : Int) != (m : Int)) = true := by rw [bne_iff_ne]; omega
          clear c4
          (go_enter Try.func16, Try.ntmps16)
          go_wp2_with fail
          refine (Hnum.out _).mono ?_; rintro e w1 ⟨d1, rfl, rfl⟩
          go_wp2_with fail
          go_region_with (first | (go_at_call 10; refine (Hsu.out _ _ (by exact Sl.lit (Blk.new _ _ _) (by decide) rfl) Hsz.out).mono ?_; rintro e w2 ⟨rfl, rfl⟩) | (go_at_call 24; refine (Hn4.out _).mono ?_; rintro e w2 ⟨d2, rfl, rfl⟩))
          all_goals
            go_wp2_with fail
            go_ret3
            exact ⟨rfl, (by repeat' (first | exact Below.refl _ _ | assumption | refine Below.setCell ?_ (by first | omega | (simp; done) | (simp; omega)) _ | refine Below.alloc ?_ (by first | omega | (simp; done) | (simp; omega)) _ | refine below_drew ?_ _ | apply Below.drew))⟩
end Go.Proofs.Ytabolnflmhfdhaa
