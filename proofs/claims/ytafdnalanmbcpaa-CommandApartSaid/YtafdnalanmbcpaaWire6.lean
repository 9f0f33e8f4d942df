/- What U, I, B, S, List and Done of wire's Dec answer, at any bytes. -/
import Derived.Test.YtafdnalanmbcpaaWireP
set_option linter.unusedSimpArgs false
set_option linter.unusedVariables false
namespace Go.Proofs.Ytafdnalanmbcpaa
open Go.RowKit
set_option maxHeartbeats 1000000
set_option maxRecDepth 100000

theorem World.setCell_twice (w : World) (p : Addr) (v v' : Value) : (w.setCell p v).setCell p v' = w.setCell p v' := by
  unfold World.setCell
  congr 1
  apply Array.ext_getElem?
  intro i
  simp only [Array.getElem?_modify]
  split
  · rename_i h
    cases w.heap[i]? with
    | none => rfl
    | some o =>
      cases o <;> simp
      split <;> simp
  · rfl
theorem and127_u8 (m : Nat) (h : m < 256) : bits BinOp.and IntKind.u8 (m : Int) 127 = ((m % 128 : Nat) : Int) := by
  revert m
  decide +kernel
theorem dec_or (q r : Nat) (hq : q * 128 + r < 2 ^ 64) (hr : r < 128) : bits BinOp.or IntKind.u64 ((q : Int) * 128) (r : Int) = ((q * 128 + r : Nat) : Int) := by
  have h1 : (BitVec.ofInt 64 ((q : Int) * 128)).toNat = q * 128 := by
    rw [show ((q : Int) * 128) = ((q * 128 : Nat) : Int) by push_cast; rfl, BitVec.ofInt_natCast, BitVec.toNat_ofNat]
    exact Nat.mod_eq_of_lt (by omega)
  have h2 : (BitVec.ofInt 64 (r : Int)).toNat = r := by
    rw [BitVec.ofInt_natCast, BitVec.toNat_ofNat]
    exact Nat.mod_eq_of_lt (by omega)
  show IntKind.u64.wrap ((BitVec.ofInt 64 ((q : Int) * 128) ||| BitVec.ofInt 64 (r : Int)).toNat : Int) = _
  rw [BitVec.toNat_or, h1, h2, show q * 128 = q <<< 7 by rw [Nat.shiftLeft_eq], ← Nat.shiftLeft_add_eq_or_of_lt (by omega), Nat.shiftLeft_eq, IntKind.wrap_u64]
  omega

/-- Dec b's bytes have become l, its error k; nothing else that was there has turned. -/
def DecTo (w : World) (b : Nat) (l : List UInt8) (k : Int) (w' : World) : Prop := Blk w' b #[.string (bs l), .int .i64 (k)] 61 ∧ Only (· = b) w w'
theorem DecTo.trans {w w' w'' : World} {b : Nat} {l : List UInt8} {k : Int} (h : Only (· = b) w w') (h2 : DecTo w' b l k w'') : DecTo w b l k w'' := ⟨h2.1, h.trans h2.2 (fun _ _ e => e)⟩

theorem dec_fail_any (x : Value) (j k : Int) (b : Nat) (w : World) (h : Blk w b #[x, .int .i64 (k)] 61) :
    Calls Try.prog 22 #[.pointer (some ⟨b, 0, none⟩), .int .i64 (j)] w (fun e w' => e = .returned (.tuple #[]) ∧ Blk w' b #[x, .int .i64 (if k = 0 then j else k)] 61 ∧ Only (· = b) w w') := by
  by_cases hk : k = 0
  · subst hk
    refine (dec_fail x j b w h).mono ?_
    rintro e w' ⟨rfl, rfl⟩
    exact ⟨rfl, by simpa using h.set 1 (.int .i64 (j)), (Only.refl _ _).setCell _ _ (fun _ => rfl)⟩
  · have hc1 := h.cell 1
    simp only [List.getElem?_toArray, List.getElem?_cons_zero, List.getElem?_cons_succ] at hc1
    have hk1 : (k == 0) = false := by simpa using hk
    have hk2 : (k != 0) = true := by simpa using hk
    rw [if_neg hk]
    (go_enter Try.func22, Try.ntmps22)
    go_wp2_with fail
    go_end0
    exact ⟨rfl, h, Only.refl _ _⟩

theorem dec_U (l : List UInt8) (hl : l.length ≤ 900000) (k : Int) (b : Nat) (w : World) (h : Blk w b #[.string (bs l), .int .i64 (k)] 61) :
    Calls Try.prog 20 #[.pointer (some ⟨b, 0, none⟩)] w (fun e w' => e = .returned (.int .u64 ((Wire.decU l k).1 : Int)) ∧ DecTo w b (Wire.decU l k).2.1 (Wire.decU l k).2.2 w') := by
  by_cases hk : k = 0
  · subst hk
    unfold Wire.decU
    rw [if_pos rfl]
    obtain ⟨res, hres⟩ : ∃ res, res = Wire.take1 l true 0 := ⟨_, rfl⟩
    rw [← hres]
    have Hr := Lib.hid hres
    clear hres
    (go_enter Try.func20, Try.ntmps20)
    go_wp2_with fail
    go_loopw [3, 4] (fun v i wr => ∃ (n v0 : Nat) (l' : List UInt8), i = .int .i64 (n) ∧ v = .int .u64 (v0 : Int) ∧ n + l'.length = l.length ∧ Hid (res = Wire.take1 l' (n == 0) v0) ∧ v0 < 2 ^ 64 ∧ Blk wr b #[.string (bs l'), .int .i64 (0)] 61 ∧ Only (· = b) w wr) (fun _ i _ => l.length - (intOf i).toNat)
    case atStart => exact ⟨0, 0, l, rfl, rfl, by omega, Hr, by omega, h, Only.refl _ _⟩
    case round =>
      obtain ⟨n, v0, l', rfl, rfl, hnl, HR, hv0, hb, hO⟩ := hrel
      clear Hr
      cases l' with
      | nil =>
        have hR : res = (0, [], 2) := HR.out
        subst hR
        clear HR
        have hB := dec_byte_end b _ hb
        have hb2 := hb.set 1 (.int .i64 (2))
        simp at hb2
        have hF := dec_fail_any _ 3 2 b _ hb2
        rw [if_neg (by decide)] at hF
        have hc1 := hb2.cell 1
        simp only [List.getElem?_toArray, List.getElem?_cons_zero, List.getElem?_cons_succ] at hc1
        have hO2 := hO.setCell ⟨b, 1, none⟩ (.int .i64 (2)) (fun _ => rfl)
        have HB := Lib.hid hB
        have HF := Lib.hid hF
        clear hB hF
        by_cases hv : v0 < 2 ^ 57
        · have hv57 : (v0 : Int) / 144115188075855872 = 0 := by omega
          go_wp2_with fail
          refine HB.out.mono ?_; rintro e w1 ⟨rfl, rfl⟩
          go_wp2_with fail
          all_goals
            go_ret
            exact ⟨rfl, hb2, hO2⟩
        · have hv57 : (0 : Int) < (v0 : Int) / 144115188075855872 := by omega
          go_wp2_with fail
          refine HB.out.mono ?_; rintro e w1 ⟨rfl, rfl⟩
          go_wp2_with fail
          all_goals
            refine HF.out.mono ?_; rintro e w1 ⟨rfl, hb3, hO3⟩
            have hc3 := hb3.cell 1
            simp only [List.getElem?_toArray, List.getElem?_cons_zero, List.getElem?_cons_succ] at hc3
            go_wp2_with fail
            go_ret
            exact ⟨rfl, hb3, hO2.trans hO3 (fun _ _ e => e)⟩
      | cons c l' =>
        simp only [List.length_cons] at hnl
        have hB := dec_byte_ok c l' (by omega) b _ hb
        have hb2 := hb.set 0 (.string (bs l'))
        simp at hb2
        have hc1 := hb2.cell 1
        simp only [List.getElem?_toArray, List.getElem?_cons_zero, List.getElem?_cons_succ] at hc1
        have hO2 := hO.setCell ⟨b, 0, none⟩ (.string (bs l')) (fun _ => rfl)
        have hF := dec_fail_any _ 3 0 b _ hb2
        rw [if_pos rfl] at hF
        have HB := Lib.hid hB
        have HF := Lib.hid hF
        have hc256 : c.toNat < 256 := c.toNat_lt
        have hcr : UInt8.ofNat c.toNat = c := UInt8.ofNat_toNat
        have hceq : (c = 128) ↔ c.toNat = 128 := by rw [← UInt8.toNat_inj]; exact Iff.rfl
        have hclt : (c < 128) ↔ c.toNat < 128 := Iff.rfl
        clear hB hF hcr
        by_cases hbad : (n = 0 ∧ c.toNat = 128) ∨ 2 ^ 57 ≤ v0
        · have hR : res = (0, l', 3) := by
            have h1 := HR.out
            rw [Wire.take1, if_pos (by rw [hceq]; simpa using hbad)] at h1
            exact h1
          subst hR
          clear HR hceq hclt
          rcases hbad with ⟨rfl, hc⟩ | hv
          · rw [hc] at HB
            go_wp2_with fail
            refine HB.out.mono ?_; rintro e w1 ⟨rfl, rfl⟩
            go_wp2_with fail
            refine HF.out.mono ?_; rintro e w1 ⟨rfl, hb3, hO3⟩
            have hc3 := hb3.cell 1
            simp only [List.getElem?_toArray, List.getElem?_cons_zero, List.getElem?_cons_succ] at hc3
            go_wp2_with fail
            go_ret
            exact ⟨rfl, hb3, hO2.trans hO3 (fun _ _ e => e)⟩
          · have hv57 : (0 : Int) < (v0 : Int) / 144115188075855872 := by omega
            have hv58 : ¬ ((v0 : Int) / 144115188075855872 = 0) := by omega
            have hv59 : (((v0 : Int) / 144115188075855872) != 0) = true := by simp only [bne_iff_ne, ne_eq]; omega
            have hv60 : (((v0 : Int) / 144115188075855872) == 0) = false := by rw [beq_eq_false_iff_ne]; omega
            go_wp2_with fail
            refine HB.out.mono ?_; rintro e w1 ⟨rfl, rfl⟩
            go_wp2_with fail
            all_goals
              refine HF.out.mono ?_; rintro e w1 ⟨rfl, hb3, hO3⟩
              have hc3 := hb3.cell 1
              simp only [List.getElem?_toArray, List.getElem?_cons_zero, List.getElem?_cons_succ] at hc3
              go_wp2_with fail
              go_ret
              exact ⟨rfl, hb3, hO2.trans hO3 (fun _ _ e => e)⟩
        · have hv57 : (v0 : Int) / 144115188075855872 = 0 := by omega
          have hv1 : v0 < 2 ^ 57 := by omega
          have hR : res = if c.toNat < 128 then (v0 * 128 + c.toNat, l', 0) else Wire.take1 l' false (v0 * 128 + (c.toNat - 128)) := by
            have h1 := HR.out
            rw [Wire.take1, if_neg (by rw [hceq]; simpa using hbad)] at h1
            exact h1
          have hfin : bits BinOp.or IntKind.u64 ((v0 : Int) * 128) (IntKind.u64.wrap (bits BinOp.and IntKind.u8 ((c.toNat : Nat) : Int) 127)) = ((v0 * 128 + c.toNat % 128 : Nat) : Int) := by
            rw [and127_u8 _ hc256]
            rw [show IntKind.u64.wrap ((c.toNat % 128 : Nat) : Int) = ((c.toNat % 128 : Nat) : Int) by rw [IntKind.wrap_u64]; omega]
            rw [dec_or _ _ (by omega) (by omega)]
          have HFin := Lib.hid hfin
          have hnc : n = 0 → c.toNat ≠ 128 := fun e e2 => hbad (Or.inl ⟨e, e2⟩)
          have hnc2 : Hid (n = 0 → c.toNat ≠ 128) := Lib.hid hnc
          have HR2 := Lib.hid hR
          clear HR hfin hceq hclt hR hbad hnc
          by_cases hc : c.toNat < 128
          · have hcl : ((c.toNat : Int) == 128) = false := by rw [beq_eq_false_iff_ne]; omega
            go_wp2_with fail
            refine HB.out.mono ?_; rintro e w1 ⟨rfl, rfl⟩
            go_wp2_with fail
            all_goals
              go_ret
              have hr := HR2.out
              rw [if_pos hc] at hr
              subst hr
              refine ⟨?_, hb2, hO2⟩
              rw [HFin.out, Nat.mod_eq_of_lt hc]
              rfl
          · go_wp2_with fail
            refine HB.out.mono ?_; rintro e w1 ⟨rfl, rfl⟩
            by_cases hn0 : n = 0
            · have hcl : ((c.toNat : Int) == 128) = false := by rw [beq_eq_false_iff_ne]; have := hnc2.out hn0; omega
              subst hn0
              go_wp2_with fail
              all_goals
                refine ⟨⟨1, v0 * 128 + c.toNat % 128, l', by go_num, by rw [HFin.out], by omega, ?_, by omega, hb2, hO2⟩, by simp [intOf]; omega⟩
                refine Lib.hid ?_
                rw [HR2.out, if_neg hc, show c.toNat - 128 = c.toNat % 128 by omega]
                rfl
            · have hn1 : ((n : Int) == 0) = false := by rw [beq_eq_false_iff_ne]; omega
              go_wp2_with fail
              all_goals
                refine ⟨⟨n + 1, v0 * 128 + c.toNat % 128, l', by go_num, by rw [HFin.out], by omega, ?_, by omega, hb2, hO2⟩, by simp [intOf]; omega⟩
                refine Lib.hid ?_
                rw [HR2.out, if_neg hc, show c.toNat - 128 = c.toNat % 128 by omega]
                rfl
  · have hB := dec_byte_err (bs l) k hk b w h
    have hc1 := h.cell 1
    simp only [List.getElem?_toArray, List.getElem?_cons_zero, List.getElem?_cons_succ] at hc1
    have hk1 : (k == 0) = false := by simpa using hk
    have hk2 : (k != 0) = true := by simpa using hk
    have HB := Lib.hid hB
    clear hB
    unfold Wire.decU
    rw [if_neg hk]
    (go_enter Try.func20, Try.ntmps20)
    go_wp2_with fail
    go_loopw [3, 4] (fun v i wr => v = .int .u64 0 ∧ i = .int .i64 (0) ∧ wr = w) (fun _ _ _ => 0)
    case atStart => exact ⟨rfl, rfl, rfl⟩
    case round =>
      obtain ⟨rfl, rfl, rfl⟩ := hrel
      go_wp2_with fail
      refine HB.out.mono ?_; rintro e w1 ⟨rfl, rfl⟩
      go_wp2_with fail
      go_ret
      exact ⟨rfl, h, Only.refl _ _⟩
end Go.Proofs.Ytafdnalanmbcpaa
