/- A region that draws its order, walked once an operation: what is kept by each operation holds at the end, in whatever order they came. No condition. -/
import Derived.Test.YtloimgmifalpnaaBase
set_option linter.unusedSimpArgs false
set_option linter.unusedVariables false
namespace Go.Proofs.Ytloimgmifalpnaa
open Go.RowKit

namespace Inv
variable {P : Program} {ops : Array Oper} {Q : Exit → Act → World → Prop} {md : Region.Mode}

theorem count_set {l : Array Bool} {i : Nat} (h : l.getD i true = false) : i < l.size ∧ (l.setIfInBounds i true).toList.count false + 1 = l.toList.count false := by
  have hi : i < l.size := by
    rcases Nat.lt_or_ge i l.size with h' | h'
    · exact h'
    · simp [Array.getElem?_eq_none h'] at h
  refine ⟨hi, ?_⟩
  have hl : l.toList[i] = false := by simpa [hi] using h
  have hmem : false ∈ l.toList := by rw [← hl]; exact List.getElem_mem _
  have hpos := List.count_pos_iff.2 hmem
  rw [Array.toList_setIfInBounds, List.count_set (by simpa using hi), hl, if_pos (by rfl), if_neg (by decide)]
  omega

/-- Each operation that may come up keeps I; where none may come up any more I says Q. -/
theorem wpAny_inv {I : Array Bool → Act → World → Prop}
    (hstep : ∀ listed a w i, i ∈ Region.ready md ops listed → I listed a w → wpOp P ops Q i (I (listed.setIfInBounds i true)) a w)
    (hend : ∀ listed a w, Region.ready md ops listed = [] → I listed a w → Q .normal a w) :
    ∀ (fuel : Nat) (listed : Array Bool) (a : Act) (w : World), listed.toList.count false ≤ fuel → I listed a w → wpAny P md ops Q fuel listed a w
  | 0, listed, a, w, hc, h => by
    have hr : Region.ready md ops listed = [] := by
      refine List.eq_nil_iff_forall_not_mem.2 (fun i hi => ?_)
      have := (count_set (mem_ready.1 hi).1).2
      omega
    exact ⟨hr, hend _ _ _ hr h⟩
  | fuel + 1, listed, a, w, hc, h => ⟨fun hr => hend _ _ _ hr h, fun i hi => wpOp_mono (fun a' w' h' => wpAny_inv hstep hend fuel _ a' w' (by have := (count_set (mem_ready.1 hi).1).2; omega) h') (hstep _ _ _ i hi h)⟩

/-- the frame when those that are listed have come up -/
def fr (dst : Nat → Option Tmp) (vs : Nat → Value) (listed : Array Bool) (a0 : Act) : Nat → Act
  | 0 => a0
  | n + 1 => if listed.getD n false = true then (fr dst vs listed a0 n).put (dst n) (vs n) else fr dst vs listed a0 n
/-- the frame when all have come up -/
def frA (dst : Nat → Option Tmp) (vs : Nat → Value) (a0 : Act) : Nat → Act
  | 0 => a0
  | n + 1 => (frA dst vs a0 n).put (dst n) (vs n)
def upd (vs : Nat → Value) (i : Nat) (v : Value) : Nat → Value := fun j => if j = i then v else vs j

theorem fr_same {dst : Nat → Option Tmp} {vs us : Nat → Value} {l m : Array Bool} {a0 : Act} (n : Nat) (h : ∀ j, j < n → l.getD j false = m.getD j false ∧ vs j = us j) : fr dst vs l a0 n = fr dst us m a0 n := by
  induction n with
  | zero => rfl
  | succ n ih =>
    obtain ⟨h1, h2⟩ := h n (by omega)
    rw [fr, fr, ih (fun j hj => h j (by omega)), h1, h2]
theorem fr_all {dst : Nat → Option Tmp} {vs : Nat → Value} {l : Array Bool} {a0 : Act} (n : Nat) (h : ∀ j, j < n → l.getD j false = true) : fr dst vs l a0 n = frA dst vs a0 n := by
  induction n with
  | zero => rfl
  | succ n ih => rw [fr, frA, if_pos (h n (by omega)), ih (fun j hj => h j (by omega))]
theorem fr_none {dst : Nat → Option Tmp} {vs : Nat → Value} {l : Array Bool} {a0 : Act} (n : Nat) (h : ∀ j, j < n → l.getD j false = false) : fr dst vs l a0 n = a0 := by
  induction n with
  | zero => rfl
  | succ n ih => rw [fr, if_neg (by rw [h n (by omega)]; decide), ih (fun j hj => h j (by omega))]
theorem getD_set_self {l : Array Bool} {i : Nat} (h : i < l.size) : (l.setIfInBounds i true).getD i false = true := by
  simp [h]
theorem fr_set {dst : Nat → Option Tmp} {vs : Nat → Value} {l : Array Bool} {a0 : Act} {i : Nat} (v : Value) (n : Nat) (hi : i < n) (hil : i < l.size) (h0 : l.getD i false = false)
    (hd : ∀ j, j < n → j ≠ i → ∀ d, dst i = some d → dst j ≠ some d) : fr dst (upd vs i v) (l.setIfInBounds i true) a0 n = (fr dst vs l a0 n).put (dst i) v := by
  induction n with
  | zero => omega
  | succ n ih =>
    by_cases e : i = n
    · subst e
      rw [fr, fr, if_pos (getD_set_self hil), if_neg (by rw [h0]; decide)]
      rw [fr_same (m := l) (us := vs) i (fun j hj => ⟨getD_set_ne false (by omega), by simp [upd, show j ≠ i by omega]⟩)]
      simp [upd]
    · rw [fr, fr, getD_set_ne false e, ih (by omega) (fun j hj hji => hd j (by omega) hji)]
      by_cases hl : l.getD n false = true
      · rw [if_pos hl, if_pos hl, show upd vs i v n = vs n by simp [upd, show n ≠ i by omega]]
        exact Act.put_comm _ _ _ (hd n (by omega) (by omega))
      · rw [if_neg hl, if_neg hl]
theorem put_size (a : Act) (d : Option Tmp) (v : Value) : (a.put d v).tmps.size = a.tmps.size := by
  cases d <;> simp [Act.put]
theorem fr_size {dst : Nat → Option Tmp} {vs : Nat → Value} {l : Array Bool} {a0 : Act} (n : Nat) : (fr dst vs l a0 n).tmps.size = a0.tmps.size := by
  induction n with
  | zero => rfl
  | succ n ih =>
    rw [fr]
    split
    · rw [put_size, ih]
    · exact ih
theorem fr_out {dst : Nat → Option Tmp} {vs : Nat → Value} {l : Array Bool} {a0 : Act} {t : Tmp} (n : Nat) (h : ∀ j, j < n → dst j ≠ some t) : (fr dst vs l a0 n).eval (.tmp t) = a0.eval (.tmp t) := by
  induction n with
  | zero => rfl
  | succ n ih =>
    rw [fr]
    split
    · rw [Act.eval_put (fun d hd e => by injection e with e; subst e; exact h n (by omega) hd), ih (fun j hj => h j (by omega))]
    · exact ih (fun j hj => h j (by omega))
theorem fr_in {dst : Nat → Option Tmp} {vs : Nat → Value} {l : Array Bool} {a0 : Act} {t : Tmp} {i : Nat} (n : Nat) (hi : i < n) (ht : dst i = some t) (hl : l.getD i false = true) (hs : t < a0.tmps.size)
    (hd : ∀ j, j < n → j ≠ i → dst j ≠ some t) : (fr dst vs l a0 n).eval (.tmp t) = vs i := by
  induction n with
  | zero => omega
  | succ n ih =>
    rw [fr]
    by_cases e : i = n
    · subst e
      rw [if_pos hl, ht]
      simp [Act.put, Act.eval, fr_size, hs]
    · split
      · rw [Act.eval_put (fun d hd' e' => by injection e' with e'; subst e'; exact hd n (by omega) (fun e'' => e e''.symm) hd'), ih (by omega) (fun j hj => hd j (by omega))]
      · exact ih (by omega) (fun j hj => hd j (by omega))

/-- A list of slots, none of them twice. -/
def Dist (l : List (Option Tmp)) : Bool := l.all fun x => match x with | none => true | some d => l.count (some d) == 1
theorem dist_spec {l : List (Option Tmp)} (h : Dist l = true) {i j : Nat} {d : Tmp} (hij : i ≠ j) (hi : l[i]? = some (some d)) : l[j]? ≠ some (some d) := by
  intro hj
  have h1 := (List.all_eq_true.1 h) (some d) (List.mem_of_getElem? hi)
  simp only [beq_iff_eq] at h1
  have h2 : 2 ≤ l.count (some d) := by
    have hsub : ([some d, some d] : List (Option Tmp)).Sublist l := by
      rcases Nat.lt_or_ge i j with hlt | hge
      · have e1 := (List.getElem?_eq_some_iff.1 hi)
        have e2 := (List.getElem?_eq_some_iff.1 hj)
        obtain ⟨p1, q1⟩ := e1
        obtain ⟨p2, q2⟩ := e2
        rw [← List.take_append_drop (i + 1) l]
        refine List.Sublist.append (l₁ := [some d]) (r₁ := [some d]) ?_ ?_
        · rw [List.singleton_sublist, List.mem_take_iff_getElem]
          exact ⟨i, by omega, q1⟩
        · rw [List.singleton_sublist, List.mem_drop_iff_getElem]
          exact ⟨j - (i + 1), by omega, by rw [← q2]; congr 1; omega⟩
      · have e1 := (List.getElem?_eq_some_iff.1 hi)
        have e2 := (List.getElem?_eq_some_iff.1 hj)
        obtain ⟨p1, q1⟩ := e1
        obtain ⟨p2, q2⟩ := e2
        rw [← List.take_append_drop (j + 1) l]
        refine List.Sublist.append (l₁ := [some d]) (r₁ := [some d]) ?_ ?_
        · rw [List.singleton_sublist, List.mem_take_iff_getElem]
          exact ⟨j, by omega, q2⟩
        · rw [List.singleton_sublist, List.mem_drop_iff_getElem]
          exact ⟨i - (j + 1), by omega, by rw [← q1]; congr 1; omega⟩
    have := hsub.count_le (some d)
    simpa using this
  omega

theorem getD_rep (n j : Nat) : (Array.replicate n false).getD j false = false := by
  rcases Nat.lt_or_ge j n with h | h
  · simp [h]
  · simp [Array.getElem?_eq_none, h]
/-- Each waits only for those ahead of it. -/
def Acyc (ops : Array Oper) : Bool := (List.range ops.size).all fun j => ((ops[j]?).map fun o => o.after.all fun e => decide (e.on < j)).getD true
theorem acyc_spec {ops : Array Oper} (h : Acyc ops = true) {j : Nat} {o : Oper} (ho : ops[j]? = some o) : ∀ e ∈ o.after, e.on < j := by
  intro e he
  have hj : j < ops.size := (Array.getElem?_eq_some_iff.1 ho).1
  have h1 := (List.all_eq_true.1 h) j (by simpa using hj)
  rw [ho] at h1
  simp only [Option.map_some, Option.getD_some, Array.all_eq_true'] at h1
  have := h1 e he
  simpa using this
theorem all_listed {ops : Array Oper} (hac : Acyc ops = true) {listed : Array Bool} (hs : listed.size = ops.size) (hr : Region.ready md ops listed = []) : ∀ j, j < ops.size → listed.getD j false = true := by
  intro j
  induction j using Nat.strongRecOn with
  | ind j ih =>
    intro hj
    cases h : listed.getD j false
    · exfalso
      have hm : j ∈ Region.ready md ops listed := by
        rw [mem_ready]
        refine ⟨?_, ops[j], by simp [hj], fun e he _ => ih _ (acyc_spec hac (by simp [hj]) e he) (Nat.lt_trans (acyc_spec hac (by simp [hj]) e he) hj)⟩
        have hjs : j < listed.size := by omega
        simp [hjs] at h ⊢
        exact h
      rw [hr] at hm
      cases hm
    · rfl

/-- **A region that draws its order, each operation walked once.** T: what an operation's slot holds, of its world; R: how an operation may turn the world (T lives through it); G: what holds of the world behind those that are listed. -/
theorem region_inv {id : Nat} {a0 : Act} {w0 : World} {n : Nat} (hm : P.follows .mixedOrders = true) (ds : List (Option Tmp)) (hds : ops.toList.map (·.dst) = ds) (hdist : Dist ds = true) (hac : Acyc ops = true) (hn : ops.size = n)
    (hsz : (ds.all fun d => match d with | some t => decide (t < a0.tmps.size) | none => true) = true)
    (T : Nat → Value → World → Prop) (R : World → World → Prop) (G : Array Bool → World → Prop)
    (hR : ∀ d v w w', R w w' → T d v w → T d v w')
    (h0 : G (Array.replicate n false) { w0 with drawn := w0.drawn + 1 })
    (hstep : ∀ (i : Nat) (o : Oper) (listed : Array Bool) (a : Act) (vs : Nat → Value) (w : World), ops[i]? = some o → listed.size = n → listed.getD i false = false →
      (∀ e ∈ o.after, Region.binds .any e = true → listed.getD e.on false = true) →
      (∀ j oj, ops[j]? = some oj → listed.getD j false = true → ∀ e ∈ oj.after, Region.binds .any e = true → listed.getD e.on false = true) →
      (∀ t, some t ∉ ds → a.eval (.tmp t) = a0.eval (.tmp t)) →
      (∀ j t, ds[j]? = some (some t) → listed.getD j false = true → a.eval (.tmp t) = vs j) →
      (∀ j, listed.getD j false = true → T j (vs j) w) → G listed w →
      Region.wanted o (yielded ops a.tmps) = true ∧ ∀ K : Act → World → Prop, (∀ v w', R w w' → G (listed.setIfInBounds i true) w' → T i v w' → K (a.put o.dst v) w') → Oper.wp P o a w K Q)
    (hend : ∀ (listed : Array Bool) (vs : Nat → Value) (w : World), (∀ j, j < n → listed.getD j false = true) → (∀ j, j < n → T j (vs j) w) → G listed w → Q .normal (frA (fun i => (ds[i]?).join) vs a0 n) w) :
    (Code.region id ops true).wp P Q a0 w0 := by
  have hlen : ds.length = n := by rw [← hds]; simp [hn]
  have hdj : ∀ (i j : Nat) (d : Tmp), i ≠ j → (ds[i]?).join = some d → (ds[j]?).join ≠ some d := by
    intro i j d hij h1 h2
    have e1 : ds[i]? = some (some d) := by
      cases h : ds[i]? with
      | none => rw [h] at h1; cases h1
      | some x => rw [h] at h1; exact congrArg some h1
    have e2 : ds[j]? = some (some d) := by
      cases h : ds[j]? with
      | none => rw [h] at h2; cases h2
      | some x => rw [h] at h2; exact congrArg some h2
    exact dist_spec hdist hij e1 e2
  have hdo : ∀ (i : Nat) (o : Oper), ops[i]? = some o → (ds[i]?).join = o.dst := by
    intro i o ho
    rw [← hds, List.getElem?_map]
    have : ops.toList[i]? = some o := by simpa using ho
    rw [this]
    rfl
  refine wp_region_any hm ?_
  refine wpAny_inv (I := fun listed a w => listed.size = n ∧ (∀ j oj, ops[j]? = some oj → listed.getD j false = true → ∀ e ∈ oj.after, Region.binds .any e = true → listed.getD e.on false = true) ∧
    ∃ vs, a = fr (fun i => (ds[i]?).join) vs listed a0 n ∧ (∀ j, listed.getD j false = true → T j (vs j) w) ∧ G listed w) ?_ ?_ _ _ _ _ ?_ ?_
  · rintro listed a w i hi ⟨hls, hcl, vs, rfl, hT, hG⟩
    obtain ⟨hl0, o, ho, hdep⟩ := mem_ready.1 hi
    have hil : i < listed.size := (count_set hl0).1
    have hl : listed.getD i false = false := by simp [hil] at hl0 ⊢; exact hl0
    have hin : i < n := by omega
    obtain ⟨hw, hwp⟩ := hstep i o listed _ vs w ho hls hl hdep hcl (fun t ht => fr_out n (fun j hj e => ht (by
      cases h : ds[j]? with
      | none => rw [h] at e; cases e
      | some x =>
        rw [h] at e
        have e : x = some t := e
        rw [← e]
        exact List.mem_of_getElem? h)))
      (fun j t hj hlj => fr_in n (by rw [← hlen]; exact (List.getElem?_eq_some_iff.1 hj).1) (by rw [hj]; rfl) hlj (by
        have := (List.all_eq_true.1 hsz) _ (List.mem_of_getElem? hj)
        simpa using this) (fun k hk hkj => hdj j k t (fun e => hkj e.symm) (by rw [hj]; rfl))) hT hG
    unfold wpOp
    rw [ho]
    simp only [hw, if_true]
    refine Or.inl (hwp _ ?_)
    intro v w' hRw hG' hTi
    refine ⟨by simpa using hls, ?_, upd vs i v, ?_, ?_, hG'⟩
    · intro j oj hoj hj e he hb
      by_cases hji : j = i
      · subst hji
        rw [ho] at hoj
        cases hoj
        exact getD_set_true (hdep e he hb)
      · rw [getD_set_ne false (fun e => hji e.symm)] at hj
        exact getD_set_true (hcl j oj hoj hj e he hb)
    · rw [fr_set v n hin hil hl (fun j hj hji d hd => hdj i j d (fun e => hji e.symm) hd), hdo i o ho]
    · intro j hj
      by_cases hji : j = i
      · subst hji
        simpa [upd] using hTi
      · rw [getD_set_ne false (fun e => hji e.symm)] at hj
        rw [show upd vs i v j = vs j by simp [upd, hji]]
        exact hR _ _ _ _ hRw (hT j hj)
  · rintro listed a w hr ⟨hls, hcl, vs, rfl, hT, hG⟩
    have hall := all_listed hac (by omega) hr
    rw [fr_all n (fun j hj => hall j (by omega))]
    exact hend listed vs w (fun j hj => hall j (by omega)) (fun j hj => hT j (hall j (by omega))) hG
  · rw [hn]
    refine Nat.le_trans (List.count_le_length ..) ?_
    simp
  · rw [hn]
    refine ⟨by simp, ?_, fun _ => undef, ?_, ?_, h0⟩
    · intro j oj hoj hj
      rw [getD_rep] at hj
      cases hj
    · rw [fr_none n (fun j hj => getD_rep n j)]
    · intro j hj
      rw [getD_rep] at hj
      cases hj
/-- The same, where each step itself says that what was held lives on. -/
theorem region_inv2 {id : Nat} {a0 : Act} {w0 : World} {n : Nat} (hm : P.follows .mixedOrders = true) (ds : List (Option Tmp)) (hds : ops.toList.map (·.dst) = ds) (hdist : Dist ds = true) (hac : Acyc ops = true) (hn : ops.size = n)
    (hsz : (ds.all fun d => match d with | some t => decide (t < a0.tmps.size) | none => true) = true)
    (T : Nat → Value → World → Prop) (G : Array Bool → World → Prop)
    (h0 : G (Array.replicate n false) { w0 with drawn := w0.drawn + 1 })
    (hstep : ∀ (i : Nat) (o : Oper) (listed : Array Bool) (a : Act) (vs : Nat → Value) (w : World), ops[i]? = some o → listed.size = n → listed.getD i false = false →
      (∀ e ∈ o.after, Region.binds .any e = true → listed.getD e.on false = true) →
      (∀ j oj, ops[j]? = some oj → listed.getD j false = true → ∀ e ∈ oj.after, Region.binds .any e = true → listed.getD e.on false = true) →
      (∀ t, some t ∉ ds → a.eval (.tmp t) = a0.eval (.tmp t)) →
      (∀ j t, ds[j]? = some (some t) → listed.getD j false = true → a.eval (.tmp t) = vs j) →
      (∀ j, listed.getD j false = true → T j (vs j) w) → G listed w →
      Region.wanted o (yielded ops a.tmps) = true ∧ ∀ K : Act → World → Prop, (∀ v w', (∀ j, listed.getD j false = true → T j (vs j) w') → G (listed.setIfInBounds i true) w' → T i v w' → K (a.put o.dst v) w') → Oper.wp P o a w K Q)
    (hend : ∀ (listed : Array Bool) (vs : Nat → Value) (w : World), (∀ j, j < n → listed.getD j false = true) → (∀ j, j < n → T j (vs j) w) → G listed w → Q .normal (frA (fun i => (ds[i]?).join) vs a0 n) w) :
    (Code.region id ops true).wp P Q a0 w0 := by
  have hlen : ds.length = n := by rw [← hds]; simp [hn]
  have hdj : ∀ (i j : Nat) (d : Tmp), i ≠ j → (ds[i]?).join = some d → (ds[j]?).join ≠ some d := by
    intro i j d hij h1 h2
    have e1 : ds[i]? = some (some d) := by
      cases h : ds[i]? with
      | none => rw [h] at h1; cases h1
      | some x => rw [h] at h1; exact congrArg some h1
    have e2 : ds[j]? = some (some d) := by
      cases h : ds[j]? with
      | none => rw [h] at h2; cases h2
      | some x => rw [h] at h2; exact congrArg some h2
    exact dist_spec hdist hij e1 e2
  have hdo : ∀ (i : Nat) (o : Oper), ops[i]? = some o → (ds[i]?).join = o.dst := by
    intro i o ho
    rw [← hds, List.getElem?_map]
    have : ops.toList[i]? = some o := by simpa using ho
    rw [this]
    rfl
  refine wp_region_any hm ?_
  refine wpAny_inv (I := fun listed a w => listed.size = n ∧ (∀ j oj, ops[j]? = some oj → listed.getD j false = true → ∀ e ∈ oj.after, Region.binds .any e = true → listed.getD e.on false = true) ∧
    ∃ vs, a = fr (fun i => (ds[i]?).join) vs listed a0 n ∧ (∀ j, listed.getD j false = true → T j (vs j) w) ∧ G listed w) ?_ ?_ _ _ _ _ ?_ ?_
  · rintro listed a w i hi ⟨hls, hcl, vs, rfl, hT, hG⟩
    obtain ⟨hl0, o, ho, hdep⟩ := mem_ready.1 hi
    have hil : i < listed.size := (count_set hl0).1
    have hl : listed.getD i false = false := by simp [hil] at hl0 ⊢; exact hl0
    have hin : i < n := by omega
    obtain ⟨hw, hwp⟩ := hstep i o listed _ vs w ho hls hl hdep hcl (fun t ht => fr_out n (fun j hj e => ht (by
      cases h : ds[j]? with
      | none => rw [h] at e; cases e
      | some x =>
        rw [h] at e
        have e : x = some t := e
        rw [← e]
        exact List.mem_of_getElem? h)))
      (fun j t hj hlj => fr_in n (by rw [← hlen]; exact (List.getElem?_eq_some_iff.1 hj).1) (by rw [hj]; rfl) hlj (by
        have := (List.all_eq_true.1 hsz) _ (List.mem_of_getElem? hj)
        simpa using this) (fun k hk hkj => hdj j k t (fun e => hkj e.symm) (by rw [hj]; rfl))) hT hG
    unfold wpOp
    rw [ho]
    simp only [hw, if_true]
    refine Or.inl (hwp _ ?_)
    intro v w' hRw hG' hTi
    refine ⟨by simpa using hls, ?_, upd vs i v, ?_, ?_, hG'⟩
    · intro j oj hoj hj e he hb
      by_cases hji : j = i
      · subst hji
        rw [ho] at hoj
        cases hoj
        exact getD_set_true (hdep e he hb)
      · rw [getD_set_ne false (fun e => hji e.symm)] at hj
        exact getD_set_true (hcl j oj hoj hj e he hb)
    · rw [fr_set v n hin hil hl (fun j hj hji d hd => hdj i j d (fun e => hji e.symm) hd), hdo i o ho]
    · intro j hj
      by_cases hji : j = i
      · subst hji
        simpa [upd] using hTi
      · rw [getD_set_ne false (fun e => hji e.symm)] at hj
        rw [show upd vs i v j = vs j by simp [upd, hji]]
        exact hRw j hj
  · rintro listed a w hr ⟨hls, hcl, vs, rfl, hT, hG⟩
    have hall := all_listed hac (by omega) hr
    rw [fr_all n (fun j hj => hall j (by omega))]
    exact hend listed vs w (fun j hj => hall j (by omega)) (fun j hj => hT j (hall j (by omega))) hG
  · rw [hn]
    refine Nat.le_trans (List.count_le_length ..) ?_
    simp
  · rw [hn]
    refine ⟨by simp, ?_, fun _ => undef, ?_, ?_, h0⟩
    · intro j oj hoj hj
      rw [getD_rep] at hj
      cases hj
    · rw [fr_none n (fun j hj => getD_rep n j)]
    · intro j hj
      rw [getD_rep] at hj
      cases hj
end Inv
end Go.Proofs.Ytloimgmifalpnaa
