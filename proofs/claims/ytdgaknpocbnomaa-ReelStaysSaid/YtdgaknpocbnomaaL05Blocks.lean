/- What can be read of a volume from its beginning on. No condition. -/
import Derived.Test.YtdgaknpocbnomaaL05Marks
set_option linter.unusedSimpArgs false
set_option linter.unusedVariables false
namespace Go.Proofs.Ytdgaknpocbnomaa
open Go.RowKit
set_option maxHeartbeats 4000000
set_option maxRecDepth 100000

theorem ei_str : EI Try.prog 22 9 (.string ⟨#[]⟩) 1 16 := EI.mk' Try.underlying22 (by kernel_rfl) rfl (by decide)
def Bk.text (k : Bk) : ByteArray := if k.mark = true then ⟨#[109, 97, 114, 107]⟩ else k.s
def textv (L : List Bk) : List Value := L.map (fun k => .string k.text)
theorem read_end (R U : Int) (L : List Bk) (sf : Nat) (er : Int) (p : Nat) (h : L[p]? = none) : (Vol.stand R U L sf er p).read = ((⟨#[]⟩, false, 2), Vol.stand R U L sf er p) := by
  have e2 : tryR false 0 = (0, 0) := rfl
  unfold Vol.read Vol.stand
  simp [e2, h]
theorem read_torn (R U : Int) (L : List Bk) (sf : Nat) (er : Int) (p : Nat) (k : Bk) (h : L[p]? = some k) (ht : k.torn = true) : (Vol.stand R U L sf er p).read = ((⟨#[]⟩, false, 4), Vol.stand R U L sf er p) := by
  have e2 : tryR false 0 = (0, 0) := rfl
  unfold Vol.read Vol.stand
  simp [e2, h, ht]
theorem read_ok (R U : Int) (L : List Bk) (sf : Nat) (er : Int) (p : Nat) (k : Bk) (h : L[p]? = some k) (ht : k.torn = false) : (Vol.stand R U L sf er p).read = ((k.s, k.mark, 0), Vol.stand R U L sf er (p + 1)) := by
  have e2 : tryR false 0 = (0, 0) := rfl
  unfold Vol.read Vol.stand
  simp [e2, h, ht]
/-- what blocks hands back -/
def Seen (L : List Bk) (j : Nat) : Prop := j ≤ L.length ∧ (∀ i k, i < j → L[i]? = some k → k.torn = false) ∧ (∀ k, L[j]? = some k → k.torn = true)
theorem reel_blocks {W w : World} {base b : Nat} (R U : Int) (L : List Bk) (sf : Nat) (er : Int) (p : Nat) (hV : RV W w base b (Vol.stand R U L sf er p)) (hL : L.length < 100) :
    Calls Try.prog 22 #[.pointer (some ⟨b, 0, none⟩)] w (fun e w' => ∃ v j, e = .returned v ∧ Seen L j ∧ w'.ownsRow w.heap.size 9 1 v j (textv (L.take j)) ∧ RV W w' base b (Vol.stand R U L sf er j) ∧ Keeps w w') := by
  have hV1 := hV.below (Below.alloc (Below.refl _ _) (Nat.le_refl _) (.cells #[] 9))
  have hK1 : Keeps w (w.alloc (.cells #[] 9)) := Keeps.below (Below.alloc (Below.refl _ _) (Nat.le_refl _) _)
  have ho1 : (w.alloc (.cells #[] 9)).ownsRow w.heap.size 9 1 (.slice (some ⟨w.heap.size, 0, none⟩) 0 0) 0 [] := World.ownsRow_lit w #[] 0 (Nat.le_refl _) (by decide) rfl
  have HS := Lib.hid (rk_Seek hV1 ((0 : Nat) : Int) (by decide))
  rw [seek_ok _ _ _ _ _ _ 0 (Nat.zero_le _)] at HS
  clear hV1
  (go_enter Try.func22, Try.ntmps22)
  go_wp2_with fail
  refine HS.out.mono ?_; rintro e w2 ⟨rfl, hV2, hK2⟩
  have ho2 := hK2.own _ _ _ _ _ _ (by decide) (by decide) ho1
  have hK12 := hK1.trans hK2
  have hbl := hV.bel.size
  clear HS ho1 hK1 hK2 hV
  go_wp2_with fail
  go_loopw [3, 4] (fun v i wr => ∃ j : Nat, i = .int .i64 (j) ∧ j ≤ L.length ∧ (∀ i k, i < j → L[i]? = some k → k.torn = false) ∧ wr.ownsRow w.heap.size 9 1 v j (textv (L.take j)) ∧ RV W wr base b (Vol.stand R U L sf er j) ∧ Keeps w wr) (fun _ i _ => L.length - (intOf i).toNat)
  case atStart => exact ⟨0, rfl, by omega, by intro i k h; omega, ho2, hV2, hK12⟩
  clear ho2 hV2 hK12
  obtain ⟨j, rfl, hj, hnt, hown, hV, hK⟩ := hrel
  have Hnt := Lib.hid hnt
  clear hnt
  have hj100 : (j : Int) < 100 := by omega
  have HR := Lib.hid (rk_Read hV)
  have hsz : ∀ k, L[j]? = some k → k.s.size ≤ 1000000 := fun k hk => hV.ok.size k (List.mem_of_getElem? hk)
  rcases hk : L[j]? with _ | k
  · rw [read_end _ _ _ _ _ _ hk] at HR
    have hse : Seen L j := ⟨hj, Hnt.out, by rw [hk]; intro k h; cases h⟩
    have Hse := Lib.hid hse
    clear hse hk hsz
    obtain ⟨ao, cap, rfl, _, _, _, _⟩ := Sl.of_own hown
    go_wp2_with fail
    refine HR.out.mono ?_; rintro e w3 ⟨rfl, hV3, hK3⟩
    have ho3 := hK3.own _ _ _ _ _ _ (by decide) (by decide) hown
    have hK4 := hK.trans hK3
    clear hown hK3 hK HR
    go_wp2_with fail
    go_ret
    exact ⟨_, j, rfl, Hse.out, ho3, hV3, hK4⟩
  · by_cases ht : k.torn = true
    · rw [read_torn _ _ _ _ _ _ k hk ht] at HR
      have hse : Seen L j := ⟨hj, Hnt.out, by rw [hk]; rintro k2 h; cases h; exact ht⟩
      have Hse := Lib.hid hse
      clear hse hk hsz ht
      obtain ⟨ao, cap, rfl, _, _, _, _⟩ := Sl.of_own hown
      go_wp2_with fail
      refine HR.out.mono ?_; rintro e w3 ⟨rfl, hV3, hK3⟩
      have ho3 := hK3.own _ _ _ _ _ _ (by decide) (by decide) hown
      have hK4 := hK.trans hK3
      clear hown hK3 hK HR
      go_wp2_with fail
      go_ret
      exact ⟨_, j, rfl, Hse.out, ho3, hV3, hK4⟩
    · have htf : k.torn = false := by simpa using ht
      rw [read_ok _ _ _ _ _ _ k hk htf] at HR
      have hjl := (List.getElem?_eq_some_iff.1 hk).1
      have hkj := (List.getElem?_eq_some_iff.1 hk).2
      have hks := hsz k hk
      have hstep : Hid (∀ i k, i < j + 1 → L[i]? = some k → k.torn = false) := Lib.hid (fun i k2 hi h2 => by
        by_cases e : i = j
        · subst e; rw [hk] at h2; cases h2; exact htf
        · exact Hnt.out i k2 (by omega) h2)
      have htx : Hid (textv (L.take (j + 1)) = textv (L.take j) ++ [.string k.text]) := Lib.hid (by
        rw [take_snoc' L j hjl, hkj]
        simp [textv])
      clear hk hsz hkj ht htf
      obtain ⟨s, mk, tn⟩ := k
      simp only [Bk.text] at htx hks HR
      have hn1 : (j + 1) * 16 ≤ 140737488355328 := by omega
      have hn2 : j + 1 ≤ maxLen := by unfold maxLen; omega
      have hws := hK
      obtain ⟨ao, cap, rfl, _, _, _, _⟩ := Sl.of_own hown
      cases mk with
      | true =>
        rw [if_pos rfl] at htx
        go_wp2_with fail
        refine HR.out.mono ?_; rintro e w3 ⟨rfl, hV3, hK3⟩
        have ho3 := hK3.own _ _ _ _ _ _ (by decide) (by decide) hown
        have hK4 := hK.trans hK3
        have hw3 := hK4.size
        clear hown hK3 hK HR
        go_wp2_with (at_builtin; refine wpl_app rfl rfl ei_str w.heap.size rfl (ho3.alloc _) [.string ⟨#[109, 97, 114, 107]⟩] rfl rfl (Blk.new _ _ _) rfl hn1 hn2 (by simp; omega) ?_; intro v' w6 ho6 hk6)
        have hba : Below w3.heap.size w3 (w3.alloc (.cells #[.string ⟨#[109, 97, 114, 107]⟩] 9)) := Below.alloc (Below.refl _ _) (Nat.le_refl _) _
        have hV6 := RV.appended (hV3.below hba) (ho3.alloc _) (by decide) (by decide) hbl hk6
        have hK6 := Keeps.app (hK4.trans (Keeps.below hba)) hk6 (own_ge (ho3.alloc (.cells #[] 9)))
        refine ⟨⟨j + 1, by go_num, by omega, hstep.out, by rw [htx.out]; exact ho6, hV6, hK6⟩, by simp [intOf]; omega⟩
      | false =>
        rw [if_neg (by simp)] at htx
        go_wp2_with fail
        refine HR.out.mono ?_; rintro e w3 ⟨rfl, hV3, hK3⟩
        have ho3 := hK3.own _ _ _ _ _ _ (by decide) (by decide) hown
        have hK4 := hK.trans hK3
        have hw3 := hK4.size
        clear hown hK3 hK HR
        go_wp2_with (at_builtin; refine wpl_app rfl rfl ei_str w.heap.size rfl (ho3.alloc _) [.string s] rfl rfl (Blk.new _ _ _) rfl hn1 hn2 (by simp; omega) ?_; intro v' w6 ho6 hk6)
        have hba : Below w3.heap.size w3 (w3.alloc (.cells #[.string s] 9)) := Below.alloc (Below.refl _ _) (Nat.le_refl _) _
        have hV6 := RV.appended (hV3.below hba) (ho3.alloc _) (by decide) (by decide) hbl hk6
        have hK6 := Keeps.app (hK4.trans (Keeps.below hba)) hk6 (own_ge (ho3.alloc (.cells #[] 9)))
        refine ⟨⟨j + 1, by go_num, by omega, hstep.out, by rw [htx.out]; exact ho6, hV6, hK6⟩, by simp [intOf]; omega⟩
end Go.Proofs.Ytdgaknpocbnomaa
