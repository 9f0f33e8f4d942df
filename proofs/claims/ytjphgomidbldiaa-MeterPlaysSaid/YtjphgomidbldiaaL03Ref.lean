/- What the reference's meter and luck answer. No condition but that the numbers fit. -/
import Derived.Test.YtjphgomidbldiaaMeter
namespace Go.Proofs.Ytjphgomidbldiaa
open Go.RowKit
set_option maxHeartbeats 400000

theorem ref_take (room used n a u : Int) (hq : takeR room used n = (a, u)) (w : World) (h0 : 0 ≤ used) (h1 : used ≤ room) (h2 : room ≤ 9223372036854775807) :
    Calls Try.prog 20 #[.agg #[.int .i64 (room), .int .i64 (used)], .int .i64 (n)] w fun e w' => e = .returned (.tuple #[.agg #[.int .i64 (room), .int .i64 (u)], .int .i64 (a)]) ∧ Below w.heap.size w w' := by
  have E : Hid ((takeR room used n).1 = a ∧ (takeR room used n).2 = u) := by rw [hq]; exact ⟨rfl, rfl⟩
  clear hq
  by_cases c : n < 0
  · obtain ⟨rfl, rfl⟩ : 1 = a ∧ used = u := by simpa [takeR, c] using E.out
    clear E
    (go_enter Try.func20, Try.ntmps20)
    go_wp2_with fail
    exact bodyPost_ret (v := (.tuple #[.agg #[.int .i64 (room), .int .i64 (used)], .int .i64 (1)])) (by simp [results, Try.results20, go_sem]) rfl ⟨rfl, (by repeat' (first | exact Below.refl _ _ | assumption | refine Below.setCell ?_ (by simp <;> omega) _ | refine Below.alloc ?_ (by simp <;> omega) _ | refine below_drew ?_ _ | apply Below.drew))⟩
  · by_cases d : n ≤ room - used
    · obtain ⟨rfl, rfl⟩ : 0 = a ∧ used + n = u := by simpa [takeR, c, d] using E.out
      clear E
      have d' : ¬ (room - used < n) := by omega
      (go_enter Try.func20, Try.ntmps20)
      go_wp2_with fail
      exact bodyPost_ret (v := (.tuple #[.agg #[.int .i64 (room), .int .i64 (used + n)], .int .i64 (0)])) (by simp [results, Try.results20, go_sem]) rfl ⟨rfl, (by repeat' (first | exact Below.refl _ _ | assumption | refine Below.setCell ?_ (by simp <;> omega) _ | refine Below.alloc ?_ (by simp <;> omega) _ | refine below_drew ?_ _ | apply Below.drew))⟩
    · obtain ⟨rfl, rfl⟩ : 7 = a ∧ used = u := by simpa [takeR, c, d] using E.out
      clear E
      (go_enter Try.func20, Try.ntmps20)
      go_wp2_with fail
      exact bodyPost_ret (v := (.tuple #[.agg #[.int .i64 (room), .int .i64 (used)], .int .i64 (7)])) (by simp [results, Try.results20, go_sem]) rfl ⟨rfl, (by repeat' (first | exact Below.refl _ _ | assumption | refine Below.setCell ?_ (by simp <;> omega) _ | refine Below.alloc ?_ (by simp <;> omega) _ | refine below_drew ?_ _ | apply Below.drew))⟩

theorem ref_give (room used n a u : Int) (hq : giveR used n = (a, u)) (w : World) (h0 : 0 ≤ used) (h2 : used ≤ 9223372036854775807) :
    Calls Try.prog 21 #[.agg #[.int .i64 (room), .int .i64 (used)], .int .i64 (n)] w fun e w' => e = .returned (.tuple #[.agg #[.int .i64 (room), .int .i64 (u)], .int .i64 (a)]) ∧ Below w.heap.size w w' := by
  have E : Hid ((giveR used n).1 = a ∧ (giveR used n).2 = u) := by rw [hq]; exact ⟨rfl, rfl⟩
  clear hq
  by_cases c : n < 0
  · obtain ⟨rfl, rfl⟩ : 1 = a ∧ used = u := by simpa [giveR, c] using E.out
    clear E
    (go_enter Try.func21, Try.ntmps21)
    go_wp2_with fail
    exact bodyPost_ret (v := (.tuple #[.agg #[.int .i64 (room), .int .i64 (used)], .int .i64 (1)])) (by simp [results, Try.results21, go_sem]) rfl ⟨rfl, (by repeat' (first | exact Below.refl _ _ | assumption | refine Below.setCell ?_ (by simp <;> omega) _ | refine Below.alloc ?_ (by simp <;> omega) _ | refine below_drew ?_ _ | apply Below.drew))⟩
  · by_cases d : used < n
    · obtain ⟨rfl, rfl⟩ : 1 = a ∧ used = u := by simpa [giveR, c, d] using E.out
      clear E
      (go_enter Try.func21, Try.ntmps21)
      go_wp2_with fail
      exact bodyPost_ret (v := (.tuple #[.agg #[.int .i64 (room), .int .i64 (used)], .int .i64 (1)])) (by simp [results, Try.results21, go_sem]) rfl ⟨rfl, (by repeat' (first | exact Below.refl _ _ | assumption | refine Below.setCell ?_ (by simp <;> omega) _ | refine Below.alloc ?_ (by simp <;> omega) _ | refine below_drew ?_ _ | apply Below.drew))⟩
    · obtain ⟨rfl, rfl⟩ : 0 = a ∧ used - n = u := by simpa [giveR, c, d] using E.out
      clear E
      (go_enter Try.func21, Try.ntmps21)
      go_wp2_with fail
      exact bodyPost_ret (v := (.tuple #[.agg #[.int .i64 (room), .int .i64 (used - n)], .int .i64 (0)])) (by simp [results, Try.results21, go_sem]) rfl ⟨rfl, (by repeat' (first | exact Below.refl _ _ | assumption | refine Below.setCell ?_ (by simp <;> omega) _ | refine Below.alloc ?_ (by simp <;> omega) _ | refine below_drew ?_ _ | apply Below.drew))⟩

/-- The reference's luck 'f' (-1: none armed) is the program's 'f + 1'. -/
theorem ref_try (lost : Bool) (fail a f : Int) (hq : tryR lost (fail + 1) = (a, f + 1)) (w : World) (h0 : -1 ≤ fail) (h1 : fail ≤ 1073741824) :
    Calls Try.prog 22 #[.agg #[.bool lost, .int .i64 (fail)]] w fun e w' => e = .returned (.tuple #[.agg #[.bool lost, .int .i64 (f)], .int .i64 (a)]) ∧ Below w.heap.size w w' := by
  have E : Hid ((tryR lost (fail + 1)).1 = a ∧ (tryR lost (fail + 1)).2 = f + 1) := by rw [hq]; exact ⟨rfl, rfl⟩
  clear hq
  cases lost with
  | true =>
    obtain ⟨rfl, hf⟩ : 14 = a ∧ fail + 1 = f + 1 := by simpa [tryR] using E.out
    obtain rfl : fail = f := by omega
    clear E hf
    (go_enter Try.func22, Try.ntmps22)
    go_wp2_with fail
    exact bodyPost_ret (v := .tuple #[.agg #[.bool true, .int .i64 (fail)], .int .i64 (14)]) (by simp [results, Try.results22, go_sem]) rfl ⟨rfl, (by repeat' (first | exact Below.refl _ _ | assumption | refine Below.setCell ?_ (by simp <;> omega) _ | refine Below.alloc ?_ (by simp <;> omega) _ | refine below_drew ?_ _ | apply Below.drew))⟩
  | false =>
    by_cases c : fail = 0
    · obtain ⟨rfl, hf⟩ : 8 = a ∧ 0 = f + 1 := by simpa [tryR, c] using E.out
      obtain rfl : f = -1 := by omega
      subst c
      clear E hf
      (go_enter Try.func22, Try.ntmps22)
      go_wp2_with fail
      exact bodyPost_ret (v := .tuple #[.agg #[.bool false, .int .i64 (-1)], .int .i64 (8)]) (by simp [results, Try.results22, go_sem]) rfl ⟨rfl, (by repeat' (first | exact Below.refl _ _ | assumption | refine Below.setCell ?_ (by simp <;> omega) _ | refine Below.alloc ?_ (by simp <;> omega) _ | refine below_drew ?_ _ | apply Below.drew))⟩
    · by_cases d : 0 < fail
      · have e1 := tryR_more (f := fail + 1) (g := fail) (by omega) (by omega)
        have hE := E.out
        rw [e1] at hE
        obtain ⟨rfl, hf⟩ : 0 = a ∧ fail = f + 1 := hE
        obtain rfl : f = fail - 1 := by omega
        clear E e1 hf
        have c' : (fail == 0) = false := by simpa using c
        clear c
        (go_enter Try.func22, Try.ntmps22)
        go_wp2_with fail
        exact bodyPost_ret (v := .tuple #[.agg #[.bool false, .int .i64 (fail - 1)], .int .i64 (0)]) (by simp [results, Try.results22, go_sem]) rfl ⟨rfl, (by repeat' (first | exact Below.refl _ _ | assumption | refine Below.setCell ?_ (by simp <;> omega) _ | refine Below.alloc ?_ (by simp <;> omega) _ | refine below_drew ?_ _ | apply Below.drew))⟩
      · obtain rfl : fail = -1 := by omega
        obtain ⟨rfl, hf⟩ : 0 = a ∧ 0 = f + 1 := by simpa [tryR] using E.out
        obtain rfl : f = -1 := by omega
        clear E c d hf
        (go_enter Try.func22, Try.ntmps22)
        go_wp2_with fail
        exact bodyPost_ret (v := .tuple #[.agg #[.bool false, .int .i64 (-1)], .int .i64 (0)]) (by simp [results, Try.results22, go_sem]) rfl ⟨rfl, (by repeat' (first | exact Below.refl _ _ | assumption | refine Below.setCell ?_ (by simp <;> omega) _ | refine Below.alloc ?_ (by simp <;> omega) _ | refine below_drew ?_ _ | apply Below.drew))⟩
end Go.Proofs.Ytjphgomidbldiaa
