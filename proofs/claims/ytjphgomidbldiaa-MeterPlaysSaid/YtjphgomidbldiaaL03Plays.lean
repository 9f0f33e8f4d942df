/- MeterPlays: a device that embeds both does what it should. No condition. -/
import Derived.Test.YtjphgomidbldiaaArgs
import Derived.Test.YtjphgomidbldiaaL03A
import Derived.Test.YtjphgomidbldiaaL03Ref
namespace Go.Proofs.Ytjphgomidbldiaa
open Go.RowKit

abbrev KAct : Kd := .fields (.next (.int .i64) (.next (.int .i64) .last))
theorem row_acts {w : World} {v : Value} {xs : List (Int × Int × Unit)} (h : RdRow w 2 (KAct.Rd w) [v] xs) :
    ∃ ao cap, v = .slice ao xs.length cap ∧ xs.length ≤ cap ∧ cap ≤ maxLen ∧ (0 < xs.length → ∃ b off, ao = some ⟨b, off, none⟩ ∧ b < w.heap.size ∧
      ∀ (i : Nat) (x : Int × Int × Unit), xs[i]? = some x → w.cell? ⟨b, off + i * 2, none⟩ = some (.int .i64 x.1) ∧ w.cell? ⟨b, off + i * 2 + 1, none⟩ = some (.int .i64 x.2.1) ∧ (Lit.int .i64 x.1).wf = true ∧ (Lit.int .i64 x.2.1).wf = true) := by
  obtain ⟨ao, cap, h1, h2, h3, _, h5⟩ := h
  simp only [List.cons.injEq, and_true] at h1
  refine ⟨ao, cap, h1, h2, h3, fun hp => ?_⟩
  obtain ⟨b, off, e, hb, he⟩ := h5 hp
  refine ⟨b, off, e, hb, fun i x hx => ?_⟩
  obtain ⟨es, _, hc, c1, d1, rfl, l1, ⟨rfl, w1⟩, c2, d2, rfl, l2, ⟨rfl, w2⟩, rfl⟩ := he i x hx
  exact ⟨by simpa using hc 0 _ rfl, by simpa [Nat.add_assoc] using hc 1 _ rfl, w1, w2⟩

theorem takeR_bd (R u n : Int) (h0 : 0 ≤ u) (h1 : u ≤ R) : ∃ a u', takeR R u n = (a, u') ∧ 0 ≤ u' ∧ u' ≤ R := by
  unfold takeR
  by_cases c : n < 0
  · exact ⟨1, u, by rw [if_pos c], h0, h1⟩
  · by_cases d : n ≤ R - u
    · exact ⟨0, u + n, by rw [if_neg c, if_pos d], by omega, by omega⟩
    · exact ⟨7, u, by rw [if_neg c, if_neg d], h0, h1⟩
theorem giveR_bd (R u n : Int) (h0 : 0 ≤ u) (h1 : u ≤ R) : ∃ a u', giveR u n = (a, u') ∧ 0 ≤ u' ∧ u' ≤ R := by
  unfold giveR
  by_cases c : n < 0
  · exact ⟨1, u, by rw [if_pos c], h0, h1⟩
  · by_cases d : u < n
    · exact ⟨1, u, by rw [if_neg c, if_pos d], h0, h1⟩
    · exact ⟨0, u - n, by rw [if_neg c, if_neg d], by omega, by omega⟩
theorem tryR_bd (l : Bool) (f : Int) (h0 : 0 ≤ f) (h1 : f ≤ 1073741825) : ∃ a f', tryR l f = (a, f') ∧ 0 ≤ f' ∧ f' ≤ 1073741825 := by
  cases l with
  | true => exact ⟨14, f, rfl, h0, h1⟩
  | false =>
    by_cases c : 2 ≤ f
    · exact ⟨0, f - 1, tryR_more c rfl, by omega, by omega⟩
    · by_cases d : f = 1
      · exact ⟨8, 0, tryR_one d, by omega, by omega⟩
      · exact ⟨0, f, tryR_none (by omega), h0, h1⟩
set_option maxRecDepth 100000 in
set_option maxHeartbeats 4000000 in
theorem MeterPlays_walk (W : World) (v0 v1 : Value) (x0 : (Kd.int .i64).den) (w0 : (Kd.int .i64).Arg W v0 x0) (x1 : (Kd.slice KAct).den) (w1 : (Kd.slice KAct).Arg W v1 x1) :
    Calls Try.prog 6 #[v0, v1] W (Done W) := by
  obtain ⟨room, rfl⟩ : ∃ n : Int, n = x0 := ⟨_, rfl⟩
  obtain ⟨xs, rfl⟩ : ∃ xs : List (Int × Int × Unit), xs = x1 := ⟨_, rfl⟩
  obtain ⟨ao, cap, rfl, hlc, hcm, hpos⟩ := row_acts w1
  obtain ⟨rfl, wr⟩ := w0
  have hr := (wf_i64 wr).2
  clear w1 wr
  have hlm : xs.length ≤ 9223372036854775807 := by unfold maxLen at hcm; omega
  generalize hlen : xs.length = len at *
  have Hlen := Lib.hid hlen
  clear hlen hcm
  obtain ⟨R, hR⟩ : ∃ R : Int, R = max room 0 := ⟨_, rfl⟩
  have hR0 : 0 ≤ R := by omega
  have hRm : R ≤ 9223372036854775807 := by omega
  have HR := Lib.hid hR
  have hm2 : (if room < 0 then 0 else room) = R := by omega
  clear hR
  (go_enter Try.func6, Try.ntmps6)
  go_wp2_with fail; refine (meter_made room R HR.out _).mono ?_; rintro e w' ⟨rfl, rfl⟩
  go_wp2_with fail
  clear hm2
  have hb0 := Blk.new (W.alloc (.cells #[.int .i64 (R), .int .i64 (0)] 31)) #[.int .i64 (R), .int .i64 (0), .bool false, .int .i64 (0)] 39
  have hm0 := Blk.new ((W.alloc (.cells #[.int .i64 (R), .int .i64 (0)] 31)).alloc (.cells #[.int .i64 (R), .int .i64 (0), .bool false, .int .i64 (0)] 39)) #[.int .i64 (R), .int .i64 (0)] 41
  have hl0 := Blk.new (((W.alloc (.cells #[.int .i64 (R), .int .i64 (0)] 31)).alloc (.cells #[.int .i64 (R), .int .i64 (0), .bool false, .int .i64 (0)] 39)).alloc (.cells #[.int .i64 (R), .int .i64 (0)] 41)) #[.bool false, .int .i64 (-1)] 43
  have hb1 := (hb0.alloc (.cells #[.int .i64 (R), .int .i64 (0)] 41)).alloc (.cells #[.bool false, .int .i64 (-1)] 43)
  have hm1 := hm0.alloc (.cells #[.bool false, .int .i64 (-1)] 43)
  have hB1 : Below W.heap.size W ((((W.alloc (.cells #[.int .i64 (R), .int .i64 (0)] 31)).alloc (.cells #[.int .i64 (R), .int .i64 (0), .bool false, .int .i64 (0)] 39)).alloc (.cells #[.int .i64 (R), .int .i64 (0)] 41)).alloc (.cells #[.bool false, .int .i64 (-1)] 43)) := (by repeat' (first | exact Below.refl _ _ | assumption | refine Below.setCell ?_ (by simp <;> omega) _ | refine Below.alloc ?_ (by simp <;> omega) _ | refine below_drew ?_ _ | apply Below.drew))
  simp only [World.size_alloc] at hb1 hm1 hl0
  clear hb0 hm0
  refine (awake_any _).mono ?_; rintro e w2 ⟨rfl, hB2⟩
  have hk2 := only_of_below hB2 (fun _ => False)
  have hb2 := hb1.keep hk2 (fun e => e)
  have hm2 := hm1.keep hk2 (fun e => e)
  have hl2 := hl0.keep hk2 (fun e => e)
  have hB3 := hB1.trans (hB2.mono hB1.size)
  clear hb1 hm1 hl0 hB1 hB2 hk2
  go_wp2_with fail
  go_loopw [8] (fun i wr => ∃ (k : Nat) (u f : Int) (lost : Bool), k ≤ len ∧ i = .int .i64 (k) ∧ 0 ≤ u ∧ u ≤ R ∧ 0 ≤ f ∧ f ≤ 1073741825 ∧ Blk wr (W.heap.size + 1) #[.int .i64 (R), .int .i64 (u), .bool lost, .int .i64 (f)] 39 ∧
      Blk wr (W.heap.size + 1 + 1) #[.int .i64 (R), .int .i64 (u)] 41 ∧ Blk wr (W.heap.size + 1 + 1 + 1) #[.bool lost, .int .i64 (f - 1)] 43 ∧ Below W.heap.size W wr) (fun i _ => len - (intOf i).toNat)
  case atStart => exact ⟨0, 0, 0, false, by omega, rfl, by omega, hR0, by omega, by omega, hb2, hm2, hl2, hB3⟩
  case round =>
    obtain ⟨k, u, f, lost, hk, rfl, hu0, huR, hf0, hfm, hb3, hm3, hl3, hB4⟩ := hrel
    have hz : W.heap.size ≤ W.heap.size + 1 := by omega
    clear hb2 hm2 hl2 hB3
    by_cases hlt : k < len ∧ k < 40
    · obtain ⟨h1, h2⟩ := hlt
      obtain ⟨b, off, rfl, hbW, hcell⟩ := hpos (by omega)
      obtain ⟨c1, c2, c3, c4⟩ := hcell k (xs[k]'(by have := Hlen.out; omega)) (List.getElem?_eq_getElem _)
      generalize (xs[k]'(by have := Hlen.out; omega)).1 = kind at *
      generalize (xs[k]'(by have := Hlen.out; omega)).2.1 = n at *
      have hc1 := (hB4.cell (p := ⟨b, off + k * 2, none⟩) hbW).trans c1
      have hc2 := (hB4.cell (p := ⟨b, off + k * 2 + 1, none⟩) hbW).trans c2
      obtain ⟨n1, n2⟩ := wf_i64 c4
      clear hcell c1 c2 c3 c4 hpos
      go_upto_block 2 with (fail)
      go_cut [10, 11] (fun g g' wx => ∃ (a u' f' : Int) (lost' : Bool), g = .int .i64 (a) ∧ g' = .int .i64 (a) ∧ 0 ≤ u' ∧ u' ≤ R ∧ 0 ≤ f' ∧ f' ≤ 1073741825 ∧ Blk wx (W.heap.size + 1) #[.int .i64 (R), .int .i64 (u'), .bool lost', .int .i64 (f')] 39 ∧
        Blk wx (W.heap.size + 1 + 1) #[.int .i64 (R), .int .i64 (u')] 41 ∧ Blk wx (W.heap.size + 1 + 1 + 1) #[.bool lost', .int .i64 (f' - 1)] 43 ∧ Below W.heap.size W wx)
      case first =>
        by_cases k1 : kind = 1
        · subst k1
          obtain ⟨a, u', hq, hu1, hu2⟩ := takeR_bd R u n hu0 huR
          have Q := Lib.hid hq
          clear hq
          go_wp2_with fail
          refine (take_blk _ 0 _ _ _ R u n hb3 rfl rfl hu0 huR hRm a u' #[.int .i64 (R), .int .i64 (u'), .bool lost, .int .i64 (f)] Q.out rfl).mono ?_; rintro e w5 ⟨rfl, hb5, hk5⟩
          have hm5 := hm3.keep hk5 (fun e => by have e' : W.heap.size + 1 + 1 = W.heap.size + 1 := e; omega)
          have hl5 := hl3.keep hk5 (fun e => by have e' : W.heap.size + 1 + 1 + 1 = W.heap.size + 1 := e; omega)
          have hB5 := below_one hB4 hk5 hz
          clear hk5 hm3 hl3 hB4
          have cm0 := hm5.cell 0
          have cm1 := hm5.cell 1
          have cl0 := hl5.cell 0
          have cl1 := hl5.cell 1
          have fm := hm5.frozen
          have fl := hl5.frozen
          have hsz := hl5.lt
          have hsz2 := hm5.lt
          have cb0 := hb5.cell 0
          have cb1 := hb5.cell 1
          have cb2 := hb5.cell 2
          have cb3 := hb5.cell 3
          have hsz3 := hb5.lt
          simp at cm0 cm1 cl0 cl1 cb0 cb1 cb2 cb3
          go_wp2_with fail
          clear cm0 cm1 cl0 cl1 fm fl hsz hsz2 cb0 cb1 cb2 cb3 hsz3
          refine (ref_take R u n a u' Q.out _ hu0 huR hRm).mono ?_; rintro e w6 ⟨rfl, hb⟩
          have hk6 := only_of_below hb (fun _ => False)
          have hb6 := hb5.keep hk6 (fun e => e)
          have hm6 := hm5.keep hk6 (fun e => e)
          have hl6 := hl5.keep hk6 (fun e => e)
          have hB6 := hB5.trans (hb.mono hB5.size)
          clear hk6 hb5 hm5 hl5 hB5 hb
          have cm0 := hm6.cell 0
          have cm1 := hm6.cell 1
          have cl0 := hl6.cell 0
          have cl1 := hl6.cell 1
          have fm := hm6.frozen
          have fl := hl6.frozen
          have hsz := hl6.lt
          have hsz2 := hm6.lt
          have cb0 := hb6.cell 0
          have cb1 := hb6.cell 1
          have cb2 := hb6.cell 2
          have cb3 := hb6.cell 3
          have hsz3 := hb6.lt
          simp at cm0 cm1 cl0 cl1 cb0 cb1 cb2 cb3
          go_wp2_with fail
          go_meet
          case rel =>
            refine ⟨a, u', f, lost, rfl, rfl, hu1, hu2, hf0, hfm, ?_, ?_, ?_, ?_⟩
            · repeat' (first | exact hb6 | apply Blk.drewN | apply Blk.alloc | (refine Blk.far ?_ _ (by simp <;> omega) _))
            · exact ((hm6.set 0 _).set 1 _).alloc _
            · repeat' (first | exact hl6 | apply Blk.drewN | apply Blk.alloc | (refine Blk.far ?_ _ (by simp <;> omega) _))
            · exact (((hB6.setCell (by simp; omega) _).setCell (by simp; omega) _).alloc (by simp [World.setCell]; omega) _)
        by_cases k2 : kind = 2
        · subst k2
          obtain ⟨a, u', hq, hu1, hu2⟩ := giveR_bd R u n hu0 huR
          have Q := Lib.hid hq
          clear hq
          go_wp2_with fail
          refine (give_blk _ 0 _ _ _ u n hb3 rfl hu0 (by omega) a u' #[.int .i64 (R), .int .i64 (u'), .bool lost, .int .i64 (f)] Q.out rfl).mono ?_; rintro e w5 ⟨rfl, hb5, hk5⟩
          have hm5 := hm3.keep hk5 (fun e => by have e' : W.heap.size + 1 + 1 = W.heap.size + 1 := e; omega)
          have hl5 := hl3.keep hk5 (fun e => by have e' : W.heap.size + 1 + 1 + 1 = W.heap.size + 1 := e; omega)
          have hB5 := below_one hB4 hk5 hz
          clear hk5 hm3 hl3 hB4
          have cm0 := hm5.cell 0
          have cm1 := hm5.cell 1
          have cl0 := hl5.cell 0
          have cl1 := hl5.cell 1
          have fm := hm5.frozen
          have fl := hl5.frozen
          have hsz := hl5.lt
          have hsz2 := hm5.lt
          have cb0 := hb5.cell 0
          have cb1 := hb5.cell 1
          have cb2 := hb5.cell 2
          have cb3 := hb5.cell 3
          have hsz3 := hb5.lt
          simp at cm0 cm1 cl0 cl1 cb0 cb1 cb2 cb3
          go_wp2_with fail
          clear cm0 cm1 cl0 cl1 fm fl hsz hsz2 cb0 cb1 cb2 cb3 hsz3
          refine (ref_give R u n a u' Q.out _ hu0 (by omega)).mono ?_; rintro e w6 ⟨rfl, hb⟩
          have hk6 := only_of_below hb (fun _ => False)
          have hb6 := hb5.keep hk6 (fun e => e)
          have hm6 := hm5.keep hk6 (fun e => e)
          have hl6 := hl5.keep hk6 (fun e => e)
          have hB6 := hB5.trans (hb.mono hB5.size)
          clear hk6 hb5 hm5 hl5 hB5 hb
          have cm0 := hm6.cell 0
          have cm1 := hm6.cell 1
          have cl0 := hl6.cell 0
          have cl1 := hl6.cell 1
          have fm := hm6.frozen
          have fl := hl6.frozen
          have hsz := hl6.lt
          have hsz2 := hm6.lt
          have cb0 := hb6.cell 0
          have cb1 := hb6.cell 1
          have cb2 := hb6.cell 2
          have cb3 := hb6.cell 3
          have hsz3 := hb6.lt
          simp at cm0 cm1 cl0 cl1 cb0 cb1 cb2 cb3
          go_wp2_with fail
          go_meet
          case rel =>
            refine ⟨a, u', f, lost, rfl, rfl, hu1, hu2, hf0, hfm, ?_, ?_, ?_, ?_⟩
            · repeat' (first | exact hb6 | apply Blk.drewN | apply Blk.alloc | (refine Blk.far ?_ _ (by simp <;> omega) _))
            · exact ((hm6.set 0 _).set 1 _).alloc _
            · repeat' (first | exact hl6 | apply Blk.drewN | apply Blk.alloc | (refine Blk.far ?_ _ (by simp <;> omega) _))
            · exact (((hB6.setCell (by simp; omega) _).setCell (by simp; omega) _).alloc (by simp [World.setCell]; omega) _)
        by_cases k3 : kind = 3
        · subst k3
          obtain ⟨a, f', hq, hf1, hf2⟩ := tryR_bd lost f hf0 hfm
          have Q := Lib.hid hq
          have Q2 : Hid (tryR lost (f - 1 + 1) = (a, f' - 1 + 1)) := by rw [Int.sub_add_cancel, Int.sub_add_cancel]; exact hq
          clear hq
          go_wp2_with fail
          refine (try_blk _ 2 _ _ _ lost f hb3 rfl rfl hfm a f' #[.int .i64 (R), .int .i64 (u), .bool lost, .int .i64 (f')] Q.out rfl).mono ?_; rintro e w5 ⟨rfl, hb5, hk5⟩
          have hm5 := hm3.keep hk5 (fun e => by have e' : W.heap.size + 1 + 1 = W.heap.size + 1 := e; omega)
          have hl5 := hl3.keep hk5 (fun e => by have e' : W.heap.size + 1 + 1 + 1 = W.heap.size + 1 := e; omega)
          have hB5 := below_one hB4 hk5 hz
          clear hk5 hm3 hl3 hB4
          have cm0 := hm5.cell 0
          have cm1 := hm5.cell 1
          have cl0 := hl5.cell 0
          have cl1 := hl5.cell 1
          have fm := hm5.frozen
          have fl := hl5.frozen
          have hsz := hl5.lt
          have hsz2 := hm5.lt
          have cb0 := hb5.cell 0
          have cb1 := hb5.cell 1
          have cb2 := hb5.cell 2
          have cb3 := hb5.cell 3
          have hsz3 := hb5.lt
          simp at cm0 cm1 cl0 cl1 cb0 cb1 cb2 cb3
          go_wp2_with fail
          clear cm0 cm1 cl0 cl1 fm fl hsz hsz2 cb0 cb1 cb2 cb3 hsz3
          refine (ref_try lost (f - 1) a (f' - 1) Q2.out _ (by omega) (by omega)).mono ?_; rintro e w6 ⟨rfl, hb⟩
          have hk6 := only_of_below hb (fun _ => False)
          have hb6 := hb5.keep hk6 (fun e => e)
          have hm6 := hm5.keep hk6 (fun e => e)
          have hl6 := hl5.keep hk6 (fun e => e)
          have hB6 := hB5.trans (hb.mono hB5.size)
          clear hk6 hb5 hm5 hl5 hB5 hb
          have cm0 := hm6.cell 0
          have cm1 := hm6.cell 1
          have cl0 := hl6.cell 0
          have cl1 := hl6.cell 1
          have fm := hm6.frozen
          have fl := hl6.frozen
          have hsz := hl6.lt
          have hsz2 := hm6.lt
          have cb0 := hb6.cell 0
          have cb1 := hb6.cell 1
          have cb2 := hb6.cell 2
          have cb3 := hb6.cell 3
          have hsz3 := hb6.lt
          simp at cm0 cm1 cl0 cl1 cb0 cb1 cb2 cb3
          go_wp2_with fail
          go_meet
          case rel =>
            refine ⟨a, u, f', lost, rfl, rfl, hu0, huR, hf1, hf2, ?_, ?_, ?_, ?_⟩
            · repeat' (first | exact hb6 | apply Blk.drewN | apply Blk.alloc | (refine Blk.far ?_ _ (by simp <;> omega) _))
            · repeat' (first | exact hm6 | apply Blk.drewN | apply Blk.alloc | (refine Blk.far ?_ _ (by simp <;> omega) _))
            · exact ((hl6.set 0 _).set 1 _).alloc _
            · exact (((hB6.setCell (by simp; omega) _).setCell (by simp; omega) _).alloc (by simp [World.setCell]; omega) _)
        by_cases k4 : kind = 4
        · subst k4
          obtain ⟨f', hq⟩ : ∃ f', failR n = f' := ⟨_, rfl⟩
          have hf1 : 0 ≤ f' := by unfold failR at hq; omega
          have hf2 : f' ≤ 1073741825 := by unfold failR at hq; omega
          have hif : (if n < -1 then -1 else n) = max n (-1) := by omega
          have hif2 : (if 1073741824 < max n (-1) then 1073741824 else max n (-1)) = f' - 1 := by unfold failR at hq; omega
          have hif3 : (if max n (-1) < 1073741824 then max n (-1) else 1073741824) = f' - 1 := by unfold failR at hq; omega
          have Q := Lib.hid hq
          clear hq
          go_wp2_with fail
          refine (fail_blk _ 2 _ _ _ _ n hb3 rfl f' #[.int .i64 (R), .int .i64 (u), .bool lost, .int .i64 (f')] Q.out rfl).mono ?_; rintro e w5 ⟨rfl, hb5, hk5⟩
          have hm5 := hm3.keep hk5 (fun e => by have e' : W.heap.size + 1 + 1 = W.heap.size + 1 := e; omega)
          have hl5 := hl3.keep hk5 (fun e => by have e' : W.heap.size + 1 + 1 + 1 = W.heap.size + 1 := e; omega)
          have hB5 := below_one hB4 hk5 hz
          clear hk5 hm3 hl3 hB4
          have cm0 := hm5.cell 0
          have cm1 := hm5.cell 1
          have cl0 := hl5.cell 0
          have cl1 := hl5.cell 1
          have fm := hm5.frozen
          have fl := hl5.frozen
          have hsz := hl5.lt
          have hsz2 := hm5.lt
          have cb0 := hb5.cell 0
          have cb1 := hb5.cell 1
          have cb2 := hb5.cell 2
          have cb3 := hb5.cell 3
          have hsz3 := hb5.lt
          simp at cm0 cm1 cl0 cl1 cb0 cb1 cb2 cb3
          go_wp2_with fail
          go_meet
          case rel =>
            refine ⟨0, u, f', lost, rfl, rfl, hu0, huR, hf1, hf2, ?_, ?_, ?_, ?_⟩
            · repeat' (first | exact hb5 | apply Blk.drewN | apply Blk.alloc | (refine Blk.far ?_ _ (by simp <;> omega) _))
            · repeat' (first | exact hm5 | apply Blk.drewN | apply Blk.alloc | (refine Blk.far ?_ _ (by simp <;> omega) _))
            · exact hl5.set 1 _
            · exact hB5.setCell (by simp; omega) _
        by_cases k5 : kind = 5
        · subst k5
          go_wp2_with fail
          refine (lose_blk _ 2 _ _ _ _ hb3 rfl #[.int .i64 (R), .int .i64 (u), .bool true, .int .i64 (f)] rfl).mono ?_; rintro e w5 ⟨rfl, hb5, hk5⟩
          have hm5 := hm3.keep hk5 (fun e => by have e' : W.heap.size + 1 + 1 = W.heap.size + 1 := e; omega)
          have hl5 := hl3.keep hk5 (fun e => by have e' : W.heap.size + 1 + 1 + 1 = W.heap.size + 1 := e; omega)
          have hB5 := below_one hB4 hk5 hz
          clear hk5 hm3 hl3 hB4
          have cm0 := hm5.cell 0
          have cm1 := hm5.cell 1
          have cl0 := hl5.cell 0
          have cl1 := hl5.cell 1
          have fm := hm5.frozen
          have fl := hl5.frozen
          have hsz := hl5.lt
          have hsz2 := hm5.lt
          have cb0 := hb5.cell 0
          have cb1 := hb5.cell 1
          have cb2 := hb5.cell 2
          have cb3 := hb5.cell 3
          have hsz3 := hb5.lt
          simp at cm0 cm1 cl0 cl1 cb0 cb1 cb2 cb3
          go_wp2_with fail
          go_meet
          case rel =>
            refine ⟨0, u, f, true, rfl, rfl, hu0, huR, hf0, hfm, ?_, ?_, ?_, ?_⟩
            · repeat' (first | exact hb5 | apply Blk.drewN | apply Blk.alloc | (refine Blk.far ?_ _ (by simp <;> omega) _))
            · repeat' (first | exact hm5 | apply Blk.drewN | apply Blk.alloc | (refine Blk.far ?_ _ (by simp <;> omega) _))
            · exact hl5.set 0 _
            · exact hB5.setCell (by simp; omega) _
        by_cases k6 : kind = 6
        · subst k6
          by_cases c : n ≤ R - u
          · have c' : decide (n ≤ R - u) = true := decide_eq_true c
            by_cases d : n < 0
            · go_wp2_with fail
              refine (fits_blk _ 0 _ _ _ R u n hb3 rfl rfl hu0 huR hRm).mono ?_; rintro e w5 ⟨rfl, hb5, hk5⟩
              rw [c']
              have hm5 := hm3.keep hk5 (fun e => by have e' : W.heap.size + 1 + 1 = W.heap.size + 1 := e; omega)
              have hl5 := hl3.keep hk5 (fun e => by have e' : W.heap.size + 1 + 1 + 1 = W.heap.size + 1 := e; omega)
              have hB5 := below_one hB4 hk5 hz
              clear hk5 hm3 hl3 hB4
              have cm0 := hm5.cell 0
              have cm1 := hm5.cell 1
              have cl0 := hl5.cell 0
              have cl1 := hl5.cell 1
              have fm := hm5.frozen
              have fl := hl5.frozen
              have hsz := hl5.lt
              have hsz2 := hm5.lt
              have cb0 := hb5.cell 0
              have cb1 := hb5.cell 1
              have cb2 := hb5.cell 2
              have cb3 := hb5.cell 3
              have hsz3 := hb5.lt
              simp at cm0 cm1 cl0 cl1 cb0 cb1 cb2 cb3
              go_wp2_with fail
              go_meet
              case rel => exact ⟨0, u, f, lost, rfl, rfl, hu0, huR, hf0, hfm, by first | exact hb5 | exact hb5.drewN _, by first | exact hm5 | exact hm5.drewN _, by first | exact hl5 | exact hl5.drewN _, by first | exact hB5 | exact below_drew hB5 _⟩
            · go_wp2_with fail
              refine (fits_blk _ 0 _ _ _ R u n hb3 rfl rfl hu0 huR hRm).mono ?_; rintro e w5 ⟨rfl, hb5, hk5⟩
              rw [c']
              have hm5 := hm3.keep hk5 (fun e => by have e' : W.heap.size + 1 + 1 = W.heap.size + 1 := e; omega)
              have hl5 := hl3.keep hk5 (fun e => by have e' : W.heap.size + 1 + 1 + 1 = W.heap.size + 1 := e; omega)
              have hB5 := below_one hB4 hk5 hz
              clear hk5 hm3 hl3 hB4
              have cm0 := hm5.cell 0
              have cm1 := hm5.cell 1
              have cl0 := hl5.cell 0
              have cl1 := hl5.cell 1
              have fm := hm5.frozen
              have fl := hl5.frozen
              have hsz := hl5.lt
              have hsz2 := hm5.lt
              have cb0 := hb5.cell 0
              have cb1 := hb5.cell 1
              have cb2 := hb5.cell 2
              have cb3 := hb5.cell 3
              have hsz3 := hb5.lt
              simp at cm0 cm1 cl0 cl1 cb0 cb1 cb2 cb3
              go_wp2_with fail
              go_meet
              case rel => exact ⟨0, u, f, lost, rfl, rfl, hu0, huR, hf0, hfm, by first | exact hb5 | exact hb5.drewN _, by first | exact hm5 | exact hm5.drewN _, by first | exact hl5 | exact hl5.drewN _, by first | exact hB5 | exact below_drew hB5 _⟩
          · have c' : decide (n ≤ R - u) = false := decide_eq_false c
            go_wp2_with fail
            refine (fits_blk _ 0 _ _ _ R u n hb3 rfl rfl hu0 huR hRm).mono ?_; rintro e w5 ⟨rfl, hb5, hk5⟩
            rw [c']
            have hm5 := hm3.keep hk5 (fun e => by have e' : W.heap.size + 1 + 1 = W.heap.size + 1 := e; omega)
            have hl5 := hl3.keep hk5 (fun e => by have e' : W.heap.size + 1 + 1 + 1 = W.heap.size + 1 := e; omega)
            have hB5 := below_one hB4 hk5 hz
            clear hk5 hm3 hl3 hB4
            have cm0 := hm5.cell 0
            have cm1 := hm5.cell 1
            have cl0 := hl5.cell 0
            have cl1 := hl5.cell 1
            have fm := hm5.frozen
            have fl := hl5.frozen
            have hsz := hl5.lt
            have hsz2 := hm5.lt
            have cb0 := hb5.cell 0
            have cb1 := hb5.cell 1
            have cb2 := hb5.cell 2
            have cb3 := hb5.cell 3
            have hsz3 := hb5.lt
            simp at cm0 cm1 cl0 cl1 cb0 cb1 cb2 cb3
            go_wp2_with fail
            go_meet
            case rel => exact ⟨0, u, f, lost, rfl, rfl, hu0, huR, hf0, hfm, by first | exact hb5 | exact hb5.drewN _, by first | exact hm5 | exact hm5.drewN _, by first | exact hl5 | exact hl5.drewN _, by first | exact hB5 | exact below_drew hB5 _⟩
        · go_wp2_with fail
          go_meet
          case rel => exact ⟨0, u, f, lost, rfl, rfl, hu0, huR, hf0, hfm, by first | exact hb3 | exact hb3.drewN _, by first | exact hm3 | exact hm3.drewN _, by first | exact hl3 | exact hl3.drewN _, by first | exact hB4 | exact below_drew hB4 _⟩
      case rest =>
        obtain ⟨a, u', f', lost', rfl, rfl, hu1, hu2, hf1, hf2, hb6, hm6, hl6, hB6⟩ := hcut
        have cm0 := hm6.cell 0
        have cm1 := hm6.cell 1
        have cl0 := hl6.cell 0
        have cl1 := hl6.cell 1
        have fm := hm6.frozen
        have fl := hl6.frozen
        have hsz := hl6.lt
        have hsz2 := hm6.lt
        have cb0 := hb6.cell 0
        have cb1 := hb6.cell 1
        have cb2 := hb6.cell 2
        have cb3 := hb6.cell 3
        have hsz3 := hb6.lt
        simp at cm0 cm1 cl0 cl1 cb0 cb1 cb2 cb3
        go_wp2_with fail
        go_quiet ((first | (go_at_call 18; exact quiet_drew (meter_room _ 0 R _ (by go_simp))) | (go_at_call 15; exact quiet_drew (meter_used _ 0 u' _ (by go_simp))) | (go_at_call 17; exact quiet_drew (meter_free _ 0 R u' _ (by go_simp) (by go_simp) (by omega) (by omega) (by omega))) | (go_at_call 12; exact quiet_drew (luck_lost _ 2 lost' _ (by go_simp)))))
        go_wp2_with fail
        exact ⟨⟨k + 1, u', f', lost', by omega, by go_num, by omega, by omega, by omega, by omega, hb6.drewN _, hm6.drewN _, hl6.drewN _, below_drew hB6 _⟩, by simp [intOf]; omega⟩
    · by_cases h1 : k < len
      · have h2 : 40 ≤ k := by omega
        go_wp2_with fail
        go_ret
        exact ⟨rfl, hB4⟩
      · go_wp2_with fail
        go_ret
        exact ⟨rfl, hB4⟩
namespace MeterPlays
open Go.ChangeShapes Go.WideShapes Go.ChangeAt Go.RowKit
set_option linter.unusedVariables false
theorem own : ownKnob Try.prog.godebug = none := by kernel_rfl
theorem laidOut : laidOutB Try.prog = true := by kernel_rfl
set_option maxRecDepth 100000 in
theorem lifted (os : Os) (started : os.Started) (H : Type) (enc : TypeId × Value → H) :
    ReturnsInHanded {} Try.checked os 6 .any (Rows.meterPlaysSpec.pre6 enc Try.prog Try.f6 Rows.meterPlaysRow.domain false) (Rows.meterPlaysSpec.post enc Try.prog Try.f6 false true false false) := by
  refine returnsInHanded_of_change (C := Try.checked) own started (by kernel_rfl) Try.func6
    (ChangeSpec.witness6 (enc := enc) (C := Try.checked) false ⟨#[], #[.int .i64 0, .slice none 0 0], []⟩ 8 (by kernel_rfl) (by kernel_rfl) (by kernel_rfl) (by kernel_rfl)) ?_
  intro W base args ds gs before hval0 hW hcnd _
  have hval : ∀ (j : Nat) t v, Try.f6.params[j]? = some t → args[j]? = some v → Value.okWide Try.prog W .any base t v := hval0
  have hW' := hW
  obtain ⟨p, q, hA0, hV, rfl, hfz, hnd⟩ := hW
  have hA : DataW.TrodAll enc Try.prog W 0 (fun _ => true) true Try.f6.params.toList args.toList ds p := hA0
  rw [Try.params6] at hA hval
  obtain ⟨v0, vs0, d0, ds0, p0, q0, hargs, rfl, rfl, h0, r0⟩ := trodAll_cons hA
  obtain ⟨v1, vs1, d1, ds1, p1, q1, rfl, rfl, rfl, h1, r1⟩ := trodAll_cons r0
  obtain ⟨rfl, rfl, rfl⟩ := trodAll_nil r1
  obtain rfl : args = #[v0, v1] := by cases args; simp_all
  obtain ⟨rfl, rfl⟩ := trodVars_none hV
  have lt0 : ∀ x ∈ p0, x.block < W.heap.size := by obtain ⟨m, hm⟩ := h0; exact DataW.trod_lt m _ _ _ hm
  obtain ⟨x0, w0⟩ := arg_open (Kd.int .i64) h0 (hval 0 _ v0 rfl rfl) (by kernel_rfl)
  have lt1 : ∀ x ∈ p1, x.block < W.heap.size := by obtain ⟨m, hm⟩ := h1; exact DataW.trod_lt m _ _ _ hm
  obtain ⟨x1, w1⟩ := arg_open (Kd.slice KAct) h1 (hval 1 _ v1 rfl rfl) (by kernel_rfl)
  clear hA0 hval0
  refine (MeterPlays_walk W v0 v1 x0 w0 x1 w1).mono fun e W' ⟨he, bel⟩ => ?_
  subst he
  exact ⟨_, rfl, _, _, _, [], _, [], hW', trodAll_mk1 (shut_bool (by kernel_rfl) _), (trodAll_cons_mk (Below.trod laidOut (by kernel_rfl) (of_decide_eq_true (by kernel_rfl)) h0 bel lt0) (trodAll_cons_mk (Below.trod laidOut (by kernel_rfl) (of_decide_eq_true (by kernel_rfl)) h1 bel lt1) trodAll_mk0)), rfl, bel.frame _, fun h => by cases h⟩

theorem over : Rows.meterPlaysRow.holds Try.pinned (OpenSpec.ofChange Rows.meterPlaysSpec) :=
  OpenClaim.holds_of_wide 6 Try.f6 rfl rfl rfl rfl rfl rfl rfl ⟨rfl, rfl, rfl, rfl, rfl⟩ rfl rfl rfl rfl rfl (by kernel_rfl) Try.func6 (by kernel_rfl)
    (of_decide_eq_true (by kernel_rfl)) (by unfold Func.isWrapper; rw [if_neg (of_decide_eq_false (by kernel_rfl))]; exact ⟨rfl, rfl⟩)
    (fun os started H enc _ => lifted os started H enc)
/-- THE STATEMENT. -/
theorem proved : Rows.MeterPlaysSaid := over
#print axioms proved
end MeterPlays
end Go.Proofs.Ytjphgomidbldiaa
