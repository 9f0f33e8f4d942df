/- What List of wire's Dec answers, at any bytes. -/
import Derived.Test.YtafdnalanmbcpaaWire7
set_option linter.unusedSimpArgs false
set_option linter.unusedVariables false
namespace Go.Proofs.Ytafdnalanmbcpaa
open Go.RowKit
set_option maxHeartbeats 1000000
set_option maxRecDepth 100000

theorem ei_int : EI Try.prog 24 3 (.int .i64 0) 1 8 := EI.mk' Try.underlying24 (by kernel_rfl) rfl (by decide)
/-- natural numbers as cells of int -/
def natv (l : List Nat) : List Value := l.map fun (n : Nat) => .int .i64 (n : Int)
theorem Wire.decIs_snoc (each : Int) (m : Nat) (l : List UInt8) (k : Int) : (decIs each (m + 1) l k) =
    if (decIs each m l k).2.2 = 0 then ((decIs each m l k).1 ++ [(decI each (decIs each m l k).2.1 (decIs each m l k).2.2).1], (decI each (decIs each m l k).2.1 (decIs each m l k).2.2).2) else decIs each m l k := by
  induction m generalizing l k with
  | zero =>
    rw [decIs]
    simp only [decIs, List.nil_append]
  | succ m ih =>
    rw [decIs]
    by_cases h : k = 0
    · rw [if_pos h, ih, decIs, if_pos h]
      split <;> simp
    · rw [if_neg h, decIs, if_neg h, if_neg h]
theorem Wire.decIs_stop (each : Int) (m d : Nat) (l : List UInt8) (k : Int) (h : (decIs each m l k).2.2 ≠ 0) : decIs each (m + d) l k = decIs each m l k := by
  induction d with
  | zero => rfl
  | succ d ih => rw [← Nat.add_assoc, decIs_snoc, ih, if_neg h]

theorem dec_List (most each : Int) (hm : -9223372036854775808 ≤ most ∧ most ≤ 100000) (he : -9223372036854775808 ≤ each ∧ each ≤ 9223372036854775807) (l : List UInt8) (hl : l.length ≤ 900000) (k : Int) (b : Nat) (w : World) (h : Blk w b #[.string (bs l), .int .i64 (k)] 61) :
    Calls Try.prog 21 #[.pointer (some ⟨b, 0, none⟩), .int .i64 (most), .int .i64 (each)] w (fun e w' => ∃ v, e = .returned v ∧ w'.ownsRow w.heap.size 3 1 v (Wire.decL most each l k).1.length (natv (Wire.decL most each l k).1) ∧ DecTo w b (Wire.decL most each l k).2.1 (Wire.decL most each l k).2.2 w') := by
  have HI := Lib.hid (dec_I most ⟨hm.1, by omega⟩ l hl k b w h)
  have hle := Wire.decI_le most l k
  have hlen := Wire.decI_len most l k
  have hbl := h.lt
  unfold Wire.decL
  generalize Wire.decI most l k = r at *
  obtain ⟨n, l1, k1⟩ := r
  simp only at HI hle hlen ⊢
  have hn5 : n ≤ 100000 := by omega
  clear hle
  obtain ⟨R, hR⟩ : ∃ R, R = (if (Wire.decIs each n l1 k1).2.2 = 0 then Wire.decIs each n l1 k1 else ([], (Wire.decIs each n l1 k1).2)) := ⟨_, rfl⟩
  rw [← hR]
  have HR := Lib.hid hR
  clear hR
  (go_enter Try.func21, Try.ntmps21)
  go_wp2_with fail
  refine HI.out.mono ?_; rintro e w1 ⟨rfl, hb1, hO1⟩
  go_wp2_with fail
  go_loopw [8, 9] (fun out i wr => ∃ (j : Nat) (q : List Nat × List UInt8 × Int), j ≤ n ∧ i = .int .i64 (j) ∧ Hid (Wire.decIs each j l1 k1 = q) ∧ wr.ownsRow w.heap.size 3 1 out q.1.length (natv q.1) ∧ Blk wr b #[.string (bs q.2.1), .int .i64 (q.2.2)] 61 ∧ Only (· = b) w wr) (fun _ i _ => n - (intOf i).toNat)
  case atStart => exact ⟨0, ([], l1, k1), by omega, rfl, Lib.hid rfl, World.ownsRow_nil _ _ _ _, hb1, hO1⟩
  case round =>
    obtain ⟨j, ⟨xs, l2, k2⟩, hj, rfl, HQ, hown, hb2, hO2⟩ := hrel
    simp only at hown hb2
    have hlen2 := Wire.decIs_len each j l1 k1
    rw [HQ.out] at hlen2
    simp only at hlen2
    have hc1 := hb2.cell 1
    simp only [List.getElem?_toArray, List.getElem?_cons_zero, List.getElem?_cons_succ] at hc1
    by_cases hk : k2 = 0
    · subst hk
      by_cases hlt : j < n
      · have HI2 := Lib.hid (dec_I each he l2 (by omega) 0 b _ hb2)
        have hq3 := Wire.decIs_snoc each j l1 k1
        rw [HQ.out, if_pos rfl] at hq3
        simp only at hq3
        have hx := Wire.decI_le each l2 0
        generalize Wire.decI each l2 0 = r at *
        obtain ⟨x, l3, k3⟩ := r
        simp only at HI2 hq3 hx
        have HQ3 := Lib.hid hq3
        clear HQ hq3
        go_wp2_with fail
        refine HI2.out.mono ?_; rintro e w2 ⟨rfl, hb3, hO3⟩
        have hown3 := own_keep hown hO3 (fun g hg e => by have := own_ge hown g hg; omega)
        have hge := own_ge hown
        have hsz2 : w.heap.size ≤ w2.heap.size := (hO2.trans hO3 (fun _ _ e => e)).size
        have hn1 : (xs.length + 1) * 8 ≤ 140737488355328 := by omega
        have hn2 : xs.length + 1 ≤ maxLen := by unfold maxLen; omega
        go_wp2_with (at_builtin; refine wpl_app rfl rfl ei_int w.heap.size rfl (hown3.alloc _) [.int .i64 ((x : Nat))] rfl rfl (Blk.new w2 _ _) rfl hn1 hn2 (by simp; omega) ?_; intro v' w3 ho1 hk1; obtain ⟨ao', cap', rfl, _, _, _, _⟩ := Sl.of_own ho1)
        have hb4 : Blk w3 b #[.string (bs l3), .int .i64 (k3)] 61 := Blk.keep (hb3.alloc _) hk1 (fun e => by have := hge b e; omega)
        have hO4 : Only (· = b) w w3 := Only.trans (S' := fun k => u8.ownBlock = some k) ((hO2.trans hO3 (fun _ _ e => e)).alloc _) hk1 (fun z hz e => by have := hge z e; omega)
        refine ⟨⟨j + 1, (xs ++ [x], l3, k3), by omega, by go_num, HQ3, ?_, hb4, hO4⟩, by simp [intOf]; omega⟩
        simpa [natv] using ho1
      · obtain rfl : j = n := by omega
        obtain ⟨ao', cap', rfl, _, _, _, _⟩ := Sl.of_own hown
        have hr := HR.out
        rw [HQ.out, if_pos rfl] at hr
        subst hr
        go_wp2_with fail
        go_ret
        exact ⟨_, rfl, hown, hb2, hO2⟩
    · have hst := Wire.decIs_stop each j (n - j) l1 k1 (by rw [HQ.out]; exact hk)
      rw [show j + (n - j) = n by omega, HQ.out] at hst
      have hr := HR.out
      rw [hst, if_neg hk] at hr
      subst hr
      clear hst HQ
      have hk1 : (k2 == 0) = false := by simpa using hk
      have hk2 : (k2 != 0) = true := by simpa using hk
      go_wp2_with fail
      all_goals
        go_ret
        exact ⟨_, rfl, World.ownsRow_nil _ _ _ _, hb2, hO2⟩
end Go.Proofs.Ytafdnalanmbcpaa
