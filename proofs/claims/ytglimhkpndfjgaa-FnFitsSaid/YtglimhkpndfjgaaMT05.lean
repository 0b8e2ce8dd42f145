import Derived.Test.YtglimhkpndfjgaaMT01
import Derived.Orders
import Derived.Test.YtglimhkpndfjgaaMT03
import Derived.Test.YtglimhkpndfjgaaMT04
/- A region that draws its order, walked once although what a slot holds may depend on the order drawn (a NaN's bits, a fresh block): each slot's value is known up to a property. A plain law; no statement is proved here. -/
namespace Go.Proofs.Ytglimhkpndfjgaa
open Go.ChangeShapes Go.WideShapes Go.ChangeAt Go.RowKit
set_option linter.unusedVariables false
set_option linter.unusedSimpArgs false

/-- How many of the first k operations have not come up. -/
def unl (listed : Array Bool) : Nat → Nat
  | 0 => 0
  | k + 1 => unl listed k + (if listed.getD k true = false then 1 else 0)
theorem unl_set (listed : Array Bool) (i : Nat) (hi : listed.getD i true = false) : ∀ k, unl (listed.setIfInBounds i true) k + (if i < k then 1 else 0) = unl listed k
  | 0 => by simp [unl]
  | k + 1 => by
    have ih := unl_set listed i hi k
    have hlt : i < listed.size := by
      rcases Nat.lt_or_ge i listed.size with h | h
      · exact h
      · simp [Array.getElem?_eq_none h] at hi
    simp only [unl]
    by_cases hik : i = k
    · subst hik
      have e1 : (listed.setIfInBounds i true).getD i true = true := by simp [hlt]
      rw [e1, hi]
      simp only [Nat.lt_irrefl, if_false, Nat.lt_succ_self, if_true] at ih ⊢
      simp at ih ⊢; omega
    · rw [getD_set_ne true hik]
      by_cases h2 : i < k
      · rw [if_pos h2] at ih
        have e : (if i < k + 1 then 1 else 0) = 1 := if_pos (by omega)
        rw [e]; omega
      · rw [if_neg h2] at ih
        have e : (if i < k + 1 then 1 else 0) = 0 := if_neg (by omega)
        rw [e]; omega
theorem unl_zero {listed : Array Bool} : ∀ {k : Nat}, unl listed k = 0 → ∀ i, i < k → listed.getD i true = true
  | 0, _, i, hi => by omega
  | k + 1, h, i, hi => by
    simp only [unl] at h
    by_cases hik : i = k
    · subst hik
      cases hb : listed.getD i true
      · rw [hb] at h; simp at h
      · rfl
    · exact unl_zero (k := k) (by omega) i (by omega)
theorem getD_false {listed : Array Bool} {i : Nat} (h : listed.getD i false = true) : listed.getD i true = true := by
  rcases Nat.lt_or_ge i listed.size with h' | h'
  · simp [h'] at h ⊢; exact h
  · simp [Array.getElem?_eq_none h'] at h
theorem getD_true {listed : Array Bool} {i : Nat} (hi : i < listed.size) (h : listed.getD i true = true) : listed.getD i false = true := by
  simp [hi] at h ⊢; exact h

/-- The slots that the operations write. -/
def dstsOf (l : List Oper) : List Nat := l.filterMap (·.dst)
/-- The form that such a region must have: each operation waits only for earlier ones, and for all whose slots it looks at; no slot is written twice. -/
def looseB (l : List Oper) : Bool :=
  (dstsOf l).Nodup && (List.range l.length).all fun i => match l[i]? with
    | none => true
    | some o => o.after.toList.all (fun e => decide (e.on < i) || !Region.binds .any e) && (o.looksAt l.toArray).all fun s => (List.range l.length).all fun j => match l[j]? with
      | none => true
      | some o' => o'.dst != some s || o.after.toList.any fun e => e.on == j && Region.binds .any e

section
variable {P : Program} {l : List Oper} {C : World → Prop} {R : World → World → Prop} {F : World → Nat → Value → Prop} {s0 : Array Value} {df : List Deferred}

/-- What is known of a slot's value. -/
def Gs (l : List Oper) (F : World → Nat → Value → Prop) (s0 : Array Value) (w : World) (s : Nat) (v : Value) : Prop := if s ∈ dstsOf l then F w s v else v = s0.getD s undef
/-- What an operation's end must be. -/
def Good (P : Program) (C : World → Prop) (R : World → World → Prop) (F : World → Nat → Value → Prop) (o : Oper) (w : World) : Result Next → Prop
  | .ok (.value v) w' => C w' ∧ R w w' ∧ ∀ d, o.dst = some d → F w' d v
  | .ok .skip w' => C w' ∧ R w w' ∧ ∀ d, o.dst = some d → F w' d undef
  | .ok (.enter f args) w' => Calls P f args w' fun e w'' => ∃ v, e = .returned v ∧ C w'' ∧ R w w'' ∧ ∀ d, o.dst = some d → F w'' d v
  | _ => False
/-- What one operation must do. -/
def LooseStep (P : Program) (l : List Oper) (C : World → Prop) (R : World → World → Prop) (F : World → Nat → Value → Prop) (o : Oper) (a : Act) (w : World) : Prop :=
  if Region.wanted o (yielded l.toArray a.tmps) then Good P C R F o w ((execOp a.eval o).run P w) else ∀ d, o.dst = some d → F w d undef

/-- The invariant. -/
structure LInv (l : List Oper) (C : World → Prop) (F : World → Nat → Value → Prop) (s0 : Array Value) (df : List Deferred) (listed : Array Bool) (a : Act) (w : World) : Prop where
  ls : listed.size = l.length
  cls : C w
  dfs : a.defers = df
  size : a.tmps.size = s0.size
  rest : ∀ s, s ∉ dstsOf l → a.tmps.getD s undef = s0.getD s undef
  done : ∀ (j : Nat) (o : Oper) (d : Nat), l[j]? = some o → listed.getD j false = true → o.dst = some d → F w d (a.tmps.getD d undef)

theorem nodup_dst : ∀ {l : List Oper}, (dstsOf l).Nodup → ∀ {i j : Nat} {o o' : Oper} {d : Nat}, l[i]? = some o → l[j]? = some o' → o.dst = some d → o'.dst = some d → i = j
  | [], _, i, _, _, _, _, h, _, _, _ => by simp at h
  | x :: l, hn, i, j, o, o', d, hi, hj, ho, ho' => by
    have hsplit : (dstsOf l).Nodup ∧ ∀ d, x.dst = some d → d ∉ dstsOf l := by
      unfold dstsOf at hn ⊢
      cases hx : x.dst with
      | none => simp [List.filterMap_cons, hx] at hn ⊢; exact hn
      | some d => simp only [List.filterMap_cons, hx, List.nodup_cons] at hn; exact ⟨hn.2, fun d' hd' => by injection hd' with hd'; subst hd'; exact hn.1⟩
    have hmem : ∀ {k : Nat} {q : Oper}, l[k]? = some q → q.dst = some d → d ∈ dstsOf l := fun hk hq => by
      unfold dstsOf; exact List.mem_filterMap.2 ⟨_, List.mem_of_getElem? hk, hq⟩
    match i, j with
    | 0, 0 => rfl
    | 0, j + 1 =>
      simp at hi hj; subst hi
      exact absurd (hmem hj ho') (hsplit.2 d ho)
    | i + 1, 0 =>
      simp at hi hj; subst hj
      exact absurd (hmem hi ho) (hsplit.2 d ho')
    | i + 1, j + 1 =>
      simp at hi hj
      rw [nodup_dst hsplit.1 hi hj ho ho']

theorem LInv.put {listed : Array Bool} {a : Act} {w w' : World} (hmono : ∀ d v, F w d v → F w' d v) (hn : (dstsOf l).Nodup) (hd0 : ∀ d ∈ dstsOf l, d < s0.size) (h : LInv l C F s0 df listed a w) {i : Nat} {o : Oper} (hi : l[i]? = some o) (hun : listed.getD i true = false) {v : Value} (hC : C w') (hv : ∀ d, o.dst = some d → F w' d v) :
    LInv l C F s0 df (listed.setIfInBounds i true) (a.put o.dst v) w' := by
  cases hd : o.dst with
  | none =>
    refine ⟨by simpa using h.ls, hC, h.dfs, h.size, h.rest, fun j o' d hj hl ho' => ?_⟩
    by_cases hij : i = j
    · subst hij; rw [hi] at hj; injection hj with hj; subst hj; rw [hd] at ho'; cases ho'
    · rw [getD_set_ne false hij] at hl; exact hmono _ _ (h.done j o' d hj hl ho')
  | some d =>
    have hmem : d ∈ dstsOf l := by unfold dstsOf; exact List.mem_filterMap.2 ⟨_, List.mem_of_getElem? hi, hd⟩
    have hlt := hd0 d hmem
    refine ⟨by simpa using h.ls, hC, h.dfs, by simpa [Act.put] using h.size, fun s hs => ?_, fun j o' d' hj hl ho' => ?_⟩
    · have hsd : d ≠ s := fun e => hs (e ▸ hmem)
      have := h.rest s hs
      simp only [Act.put]
      rw [← this]
      simp [Array.getElem?_setIfInBounds_ne hsd]
    · by_cases hij : i = j
      · subst hij; rw [hi] at hj; injection hj with hj; subst hj
        rw [hd] at ho'; injection ho' with ho'; subst ho'
        have : (a.put (some d) v).tmps.getD d undef = v := by simp [Act.put, h.size, hlt]
        rw [this]; exact hv d hd
      · rw [getD_set_ne false hij] at hl
        have hdd : d ≠ d' := fun e => by subst e; exact hij (nodup_dst hn hi hj hd ho')
        have := h.done j o' d' hj hl ho'
        have e2 : (a.put (some d) v).tmps.getD d' undef = a.tmps.getD d' undef := by simp [Act.put, Array.getElem?_setIfInBounds_ne hdd]
        rw [e2]; exact hmono _ _ this

theorem LInv.all {listed : Array Bool} {a : Act} {w : World} (h : LInv l C F s0 df listed a w) {k : Nat} (hk : unl listed k = 0) (hkl : l.length ≤ k) : ∀ d, d ∈ dstsOf l → F w d (a.tmps.getD d undef) := by
  intro d hd
  unfold dstsOf at hd
  obtain ⟨o, ho, hod⟩ := List.mem_filterMap.1 hd
  obtain ⟨j, hj⟩ := List.getElem?_of_mem ho
  have hjl : j < l.length := by
    rcases Nat.lt_or_ge j l.length with h' | h'
    · exact h'
    · rw [List.getElem?_eq_none h'] at hj; cases hj
  exact h.done j o d hj (getD_true (by rw [h.ls]; exact hjl) (unl_zero hk j (by omega))) hod

theorem loose_spec (hB : looseB l = true) : (dstsOf l).Nodup ∧ ∀ (i : Nat) (o : Oper), l[i]? = some o → (∀ e ∈ o.after, Region.binds .any e = true → e.on < i) ∧ ∀ s ∈ o.looksAt l.toArray, ∀ (j : Nat) (o' : Oper), l[j]? = some o' → o'.dst = some s → ∃ e ∈ o.after, e.on = j ∧ Region.binds .any e = true := by
  unfold looseB at hB
  simp only [Bool.and_eq_true, decide_eq_true_eq, List.all_eq_true, List.mem_range] at hB
  refine ⟨hB.1, fun i o hi => ?_⟩
  have hil : i < l.length := by
    rcases Nat.lt_or_ge i l.length with h' | h'
    · exact h'
    · rw [List.getElem?_eq_none h'] at hi; cases hi
  have h1 := hB.2 i hil
  rw [hi] at h1
  simp only [Bool.and_eq_true, List.all_eq_true, decide_eq_true_eq] at h1
  refine ⟨fun e he hb => by
    have := h1.1 e (by simpa using he)
    rw [hb] at this
    simpa using this, fun s hs j o' hj hod => ?_⟩
  have hjl : j < l.length := by
    rcases Nat.lt_or_ge j l.length with h' | h'
    · exact h'
    · rw [List.getElem?_eq_none h'] at hj; cases hj
  have h2 := h1.2 s hs j (List.mem_range.2 hjl)
  rw [hj] at h2
  simp only [hod, bne_self_eq_false, Bool.false_or, List.any_eq_true, Bool.and_eq_true, beq_iff_eq] at h2
  obtain ⟨e, he, h3, h4⟩ := h2
  exact ⟨e, by simpa using he, h3, h4⟩

theorem loose_wpAny (hB : looseB l = true) (hd0 : ∀ d ∈ dstsOf l, d < s0.size) {Q : Exit → Act → World → Prop} (hmono : ∀ w w' d v, R w w' → F w d v → F w' d v)
    (hstep : ∀ (i : Nat) (o : Oper), l[i]? = some o → ∀ a w, C w → (∀ s ∈ o.looksAt l.toArray, Gs l F s0 w s (a.tmps.getD s undef)) → LooseStep P l C R F o a w)
    (hend : ∀ a w, C w → a.defers = df → a.tmps.size = s0.size → (∀ s, s ∉ dstsOf l → a.tmps.getD s undef = s0.getD s undef) → (∀ d ∈ dstsOf l, F w d (a.tmps.getD d undef)) → Q .normal a w) :
    ∀ (fuel : Nat) (listed : Array Bool) (a : Act) (w : World), unl listed l.length ≤ fuel → LInv l C F s0 df listed a w → wpAny P .any l.toArray Q fuel listed a w := by
  obtain ⟨hn, hspec⟩ := loose_spec hB
  have noneReady : ∀ (listed : Array Bool), listed.size = l.length → Region.ready .any l.toArray listed = [] → unl listed l.length = 0 := by
    intro listed hsz hr
    have : ∀ k, k ≤ l.length → unl listed k = 0 := by
      intro k
      induction k with
      | zero => intro _; rfl
      | succ k ih =>
        intro hk
        have ihk := ih (by omega)
        simp only [unl, ihk]
        cases hb : listed.getD k true with
        | true => simp
        | false =>
          exfalso
          have hkl : k < l.length := by omega
          have hmem : k ∈ Region.ready .any l.toArray listed := mem_ready.2 ⟨hb, l[k], by simp [hkl], fun e he hbd => by
            have := (hspec k l[k] (by simp [hkl])).1 e he hbd
            exact getD_true (by omega) (unl_zero ihk e.on this)⟩
          rw [hr] at hmem; cases hmem
    exact this _ (Nat.le_refl _)
  intro fuel
  induction fuel with
  | zero =>
    intro listed a w hu hI
    have h0 : unl listed l.length = 0 := by omega
    refine ⟨?_, hend a w hI.cls hI.dfs hI.size hI.rest (hI.all h0 (Nat.le_refl _))⟩
    cases hr : Region.ready .any l.toArray listed with
    | nil => rfl
    | cons i is =>
      exfalso
      have hi : i ∈ Region.ready .any l.toArray listed := by rw [hr]; exact List.mem_cons_self
      obtain ⟨hun, o, ho, _⟩ := mem_ready.1 hi
      have hil : i < l.length := by
        rcases Nat.lt_or_ge i l.length with h' | h'
        · exact h'
        · simp [List.getElem?_eq_none h'] at ho
      rw [unl_zero h0 i hil] at hun; cases hun
  | succ fuel ih =>
    intro listed a w hu hI
    refine ⟨fun hr => ?_, fun i hi => ?_⟩
    · exact hend a w hI.cls hI.dfs hI.size hI.rest (hI.all (noneReady listed hI.ls hr) (Nat.le_refl _))
    · obtain ⟨hun, o, ho, hall⟩ := mem_ready.1 hi
      have ho' : l[i]? = some o := by simpa using ho
      have hil : i < l.length := by
        rcases Nat.lt_or_ge i l.length with h' | h'
        · exact h'
        · rw [List.getElem?_eq_none h'] at ho'; cases ho'
      have hlook : ∀ s ∈ o.looksAt l.toArray, Gs l F s0 w s (a.tmps.getD s undef) := by
        intro s hs
        unfold Gs
        split
        · rename_i hsd
          unfold dstsOf at hsd
          obtain ⟨o2, ho2, hod⟩ := List.mem_filterMap.1 hsd
          obtain ⟨j, hj⟩ := List.getElem?_of_mem ho2
          obtain ⟨e, he, h3, h4⟩ := (hspec i o ho').2 s hs j o2 hj hod
          have := hall e he h4
          rw [h3] at this
          exact hI.done j o2 s hj this hod
        · rename_i hsd
          exact hI.rest s hsd
      have hst := hstep i o ho' a w hI.cls hlook
      have hcnt := unl_set listed i hun l.length
      rw [if_pos hil] at hcnt
      have next : ∀ v w', C w' → (∀ d v, F w d v → F w' d v) → (∀ d, o.dst = some d → F w' d v) → wpAny P .any l.toArray Q fuel (listed.setIfInBounds i true) (a.put o.dst v) w' := fun v w' hC hm hv =>
        ih _ _ _ (by omega) (hI.put hm hn hd0 ho' hun hC hv)
      unfold wpOp
      rw [ho]
      show if Region.wanted o (yielded l.toArray a.tmps) = true then _ else _
      unfold LooseStep at hst
      split
      · rename_i hw
        rw [if_pos hw] at hst
        refine .inl ?_
        unfold Oper.wp
        generalize (execOp a.eval o).run P w = r at hst
        cases r with
        | ok n w' =>
          cases n <;> simp only [Oper.upon, Good] at hst ⊢
          case value v => exact next v w' hst.1 (fun d u => hmono _ _ d u hst.2.1) hst.2.2
          case skip => exact next undef w' hst.1 (fun d u => hmono _ _ d u hst.2.1) hst.2.2
          case enter f args => exact hst.mono fun e w'' ⟨v, he, hC, hR, hv⟩ => by subst he; exact next v w'' hC (fun d u => hmono _ _ d u hR) hv
        | halt x w' => exact hst.elim
      · rename_i hw
        rw [if_neg hw] at hst
        exact next undef w hI.cls (fun _ _ h => h) hst

/-- The frame with new values in the slots ds. -/
def fill (s : List Value) (ds : List Nat) (x : Nat → Value) : List Value := ds.foldl (fun s d => s.set d (x d)) s
theorem fill_length (x : Nat → Value) : ∀ (ds : List Nat) (s : List Value), (fill s ds x).length = s.length
  | [], s => rfl
  | d :: ds, s => by show (fill (s.set d (x d)) ds x).length = _; rw [fill_length x ds]; simp
theorem fill_get (x : Nat → Value) : ∀ (ds : List Nat) (s : List Value) (i : Nat), i < s.length → (fill s ds x)[i]? = if i ∈ ds then some (x i) else s[i]?
  | [], s, i, h => by simp [fill]
  | d :: ds, s, i, h => by
    show (fill (s.set d (x d)) ds x)[i]? = _
    rw [fill_get x ds _ i (by simpa using h)]
    by_cases hi : i ∈ ds
    · simp [hi]
    · by_cases hd : d = i
      · subst hd; simp [hi, h]
      · simp [hi, hd, Ne.symm hd]

/-- ONE WALK SERVES EVERY ORDER, the slots' values being known up to F. -/
theorem wp_region_loose {l : List Oper} {s : List Value} {id : Nat} {Q : Exit → Act → World → Prop} {w : World} (C : World → Prop) (R : World → World → Prop) (F : World → Nat → Value → Prop) (hmono : ∀ w w' d v, R w w' → F w d v → F w' d v) (hm : P.follows .mixedOrders = true) (hB : looseB l = true) (hd0 : (dstsOf l).all (fun d => decide (d < s.length)) = true) (hC : C w.drew)
    (hstep : ∀ (i : Nat) (o : Oper), l[i]? = some o → ∀ a w, C w → (∀ t ∈ o.looksAt l.toArray, Gs l F s.toArray w t (a.tmps.getD t undef)) → LooseStep P l C R F o a w)
    (h : ∀ (x : Nat → Value) (w' : World), (∀ d, d ∈ dstsOf l → F w' d (x d)) → C w' → Q .normal ⟨(fill s (dstsOf l) x).toArray, df⟩ w') : (Code.region id l.toArray true).wp P Q ⟨s.toArray, df⟩ w := by
  have hd0' : ∀ d ∈ dstsOf l, d < s.toArray.size := fun d hd => by
    have := List.all_eq_true.1 hd0 d hd
    simpa using this
  refine wp_region_any hm ?_
  refine loose_wpAny (P := P) (C := C) (R := R) (F := F) (s0 := s.toArray) (df := df) hB hd0' hmono hstep (fun a w' hC hdf hsz hrest hF => ?_) _ _ _ _ ?_ ⟨by simp, hC, rfl, rfl, fun _ _ => rfl, fun j o d _ hl => ?_⟩
  · have e : a = ⟨(fill s (dstsOf l) fun d => a.tmps.getD d undef).toArray, df⟩ := by
      obtain ⟨t, dd⟩ := a
      simp only at hdf hsz hrest hF ⊢
      subst hdf
      congr 1
      have hsz' : t.toList.length = s.length := by simpa using hsz
      have hl : t.toList = fill s (dstsOf l) fun d => t.getD d undef := by
        apply List.ext_getElem?
        intro i
        by_cases hi : i < s.length
        · rw [fill_get _ _ _ i hi]
          have ht : i < t.size := by rw [hsz]; simpa using hi
          have hg : t.getD i undef = t[i] := by simp [ht]
          by_cases hm : i ∈ dstsOf l
          · rw [if_pos hm, hg]; simp [ht]
          · rw [if_neg hm]
            have := hrest i hm
            rw [hg] at this
            simp [ht, this, hi]
        · rw [List.getElem?_eq_none (by omega), List.getElem?_eq_none (by rw [fill_length]; omega)]
      rw [← hl]
    rw [e]
    exact h _ w' hF hC
  · have hle : ∀ (b : Array Bool) k, unl b k ≤ k := by
      intro b k
      induction k with
      | zero => simp [unl]
      | succ k ih => simp only [unl]; split <;> omega
    exact Nat.le_trans (hle _ _) (by simp)
  · exfalso
    rcases Nat.lt_or_ge j l.length with h' | h'
    · simp [h'] at hl
    · simp [h'] at hl

/-- What one operation must do, given what is known of the slots that it looks at. -/
def StepOk (P : Program) (l : List Oper) (C : World → Prop) (R : World → World → Prop) (F : World → Nat → Value → Prop) (s : List Value) (o : Oper) : Prop :=
  ∀ a w, C w → (∀ t ∈ o.looksAt l.toArray, Gs l F s.toArray w t (a.tmps.getD t undef)) → LooseStep P l C R F o a w
theorem wp_loose {l : List Oper} {s : List Value} {id : Nat} {Q : Exit → Act → World → Prop} {w : World} (C : World → Prop) (R : World → World → Prop) (F : World → Nat → Value → Prop) (hmono : ∀ w w' d v, R w w' → F w d v → F w' d v) (hm : P.follows .mixedOrders = true) (hB : looseB l = true) (hd0 : (dstsOf l).all (fun d => decide (d < s.length)) = true) (hC : C w.drew)
    (hstep : ∀ o ∈ l, StepOk P l C R F s o)
    (h : ∀ (x : Nat → Value) (w' : World), (∀ d, d ∈ dstsOf l → F w' d (x d)) → C w' → Q .normal ⟨(fill s (dstsOf l) x).toArray, df⟩ w') : (Code.region id l.toArray true).wp P Q ⟨s.toArray, df⟩ w :=
  wp_region_loose C R F hmono hm hB hd0 hC (fun i o hi => hstep o (List.mem_of_getElem? hi)) h
theorem steps_cons {l' : List Oper} {o : Oper} {p : Oper → Prop} (h : p o) (h' : ∀ x ∈ l', p x) : ∀ x ∈ o :: l', p x := fun x hx => by
  rcases List.mem_cons.1 hx with rfl | hx
  · exact h
  · exact h' x hx
theorem steps_nil {p : Oper → Prop} : ∀ x ∈ ([] : List Oper), p x := fun x hx => by cases hx
section
variable {s : List Value} {o : Oper} {d : Nat}
theorem known_in {n : Nat} {w : World} {v : Value} (h : Gs l F s.toArray w n v) (hm : (dstsOf l).contains n = true) : F w n v := by
  unfold Gs at h; rwa [if_pos (by simpa using hm)] at h
theorem known_out {n : Nat} {w : World} {v u : Value} (h : Gs l F s.toArray w n v) (hm : (dstsOf l).contains n = false) (hu : s[n]? = some u) : v = u := by
  unfold Gs at h; rw [if_neg (by intro h2; rw [List.contains_iff_mem.2 h2] at hm; cases hm)] at h
  rw [h]; simp [hu]
/-- What is known of the slots that an operation looks at. -/
structure Known (l : List Oper) (F : World → Nat → Value → Prop) (s : List Value) (o : Oper) (w : World) (ev : Operand → Value) : Prop where
  get : ∀ t ∈ o.looksAt l.toArray, Gs l F s.toArray w t (ev (.tmp t))
  con : ∀ v, ev (.const v) = v
  fn : ∀ f, ev (.func f) = .func (.func f) #[] #[]
theorem Known.inn {ev : Operand → Value} {w : World} (k : Known l F s o w ev) (n : Nat) (hl : (o.looksAt l.toArray).contains n = true) (hm : (dstsOf l).contains n = true) : F w n (ev (.tmp n)) := known_in (k.get n (by simpa using hl)) hm
theorem Known.out {ev : Operand → Value} {w : World} (k : Known l F s o w ev) (n : Nat) {u : Value} (hl : (o.looksAt l.toArray).contains n = true) (hm : (dstsOf l).contains n = false) (hu : s[n]? = some u) : ev (.tmp n) = u := known_out (k.get n (by simpa using hl)) hm hu
theorem step_go (hgd : o.guard = none) (h : ∀ (ev : Operand → Value) (w : World), C w → Known l F s o w ev → Good P C R F o w ((execOp ev o).run P w)) : StepOk P l C R F s o := fun a w hC hG => by
  unfold LooseStep
  rw [if_pos (by simp [Region.wanted, hgd])]
  exact h a.eval w hC ⟨hG, fun _ => rfl, fun _ => rfl⟩
/-- .. guarded, the guard's slot being known to say b. -/
theorem step_guard {g gs : Nat} {want b : Bool} {og : Oper} (hgd : o.guard = some (g, want)) (hog : l[g]? = some og) (hgs : og.dst = some gs) (hl : (o.looksAt l.toArray).contains gs = true) (hm : (dstsOf l).contains gs = true) (hF : ∀ w v, F w gs v → v = .bool b)
    (hs : b = want → ∀ (ev : Operand → Value) (w : World), C w → Known l F s o w ev → Good P C R F o w ((execOp ev o).run P w)) (hn : b ≠ want → ∀ w d, o.dst = some d → F w d undef) : StepOk P l C R F s o := fun a w hC hG => by
  have hk : Known l F s o w a.eval := ⟨hG, fun _ => rfl, fun _ => rfl⟩
  have hv := hF _ _ (hk.inn gs hl hm)
  have hy : yielded l.toArray a.tmps g = some b := by
    unfold yielded
    have e1 : a.tmps.getD gs undef = .bool b := hv
    have e2 : a.tmps[gs]? = some (.bool b) := by
      rcases Nat.lt_or_ge gs a.tmps.size with h | h
      · simp [h] at e1 ⊢; exact e1
      · simp [Array.getElem?_eq_none h] at e1; cases e1
    simp [hog, hgs, e2]
  unfold LooseStep
  by_cases hb : b = want
  · rw [if_pos (by simp [Region.wanted, hgd, hy, hb])]
    exact hs hb a.eval w hC hk
  · rw [if_neg (by simp [Region.wanted, hgd, hy, hb])]
    exact hn hb w
theorem load_blk {ev : Operand → Value} {w : World} {ty t : TypeId} {x : Operand} {b n : Nat} {D : Array Value} {pos : String} {dst : Option Tmp} {tt : TypeId} {af : Array Edge} {gd : Option (Nat × Bool)} (hx : ev x = .pointer (some ⟨b, 0, none⟩)) (hr : RowTy P ty n) (hb : Blk w b D t) (hs : D.size = n) : (execOp ev { dst := dst, op := .load ty x, type := tt, pos := pos, after := af, guard := gd }).run P w = .ok (.value (.agg D)) w := by
  obtain ⟨d, hu, hd, hi⟩ := hr
  have hl := run_loadVar_row (P := P) w b t ty D (0, 0) d hb hu (by cases d <;> simp_all) (by rw [hi, hs])
  simp [execOp, hx, Instr.loadAt, Instr.sureAddr, hl]
theorem good_of {ev : Operand → Value} {w w' : World} {v : Value} (hd : o.dst = some d) (hr : (execOp ev o).run P w = .ok (.value v) w') (hC : C w') (hR : R w w') (hF : F w' d v) : Good P C R F o w ((execOp ev o).run P w) := by
  rw [hr]
  exact ⟨hC, hR, fun d' hd' => by rw [hd] at hd'; injection hd' with hd'; subst hd'; exact hF⟩
theorem good_call {ev : Operand → Value} {w : World} {f : FuncId} {args : Array Value} (hd : o.dst = some d) (hr : (execOp ev o).run P w = .ok (.enter f args) w) (hc : Calls P f args w fun e w'' => ∃ v, e = .returned v ∧ C w'' ∧ R w w'' ∧ F w'' d v) : Good P C R F o w ((execOp ev o).run P w) := by
  rw [hr]
  exact hc.mono fun e w'' ⟨v, he, h1, h2, h3⟩ => ⟨v, he, h1, h2, fun d' hd' => by rw [hd] at hd'; injection hd' with hd'; subst hd'; exact h3⟩
end
end
end Go.Proofs.Ytglimhkpndfjgaa
/- Two grounds whose numbers are alike are told equal. -/
namespace Go.Proofs.Ytglimhkpndfjgaa
open Go.ChangeShapes Go.WideShapes Go.ChangeAt Go.RowKit
set_option linter.unusedVariables false
set_option linter.unusedSimpArgs false
attribute [local irreducible] Calls

/-- Two grounds whose numbers are alike. -/
structure GrEq (g g' : Gr) : Prop where
  wide : g.wide = g'.wide
  high : g.high = g'.high
  fix : g.fix = g'.fix
  con : ∀ k, k < 64 → cn (g.con k) = cn (g'.con k)
  gai : ∀ k, k < 64 → cn (g.gai k) = cn (g'.gai k)
  hea : ∀ k, k < 64 → cn (g.hea k) = cn (g'.hea k)
theorem GrEq.refl (g : Gr) : GrEq g g := ⟨rfl, rfl, rfl, fun _ _ => rfl, fun _ _ => rfl, fun _ _ => rfl⟩

end Go.Proofs.Ytglimhkpndfjgaa
/- What flows in a ground, as plain numbers: balances, steps, sweeps; what a valid ground's numbers are. Plain laws; no statement is proved here. -/
namespace Go.Proofs.Ytglimhkpndfjgaa
open Go.ChangeShapes Go.WideShapes Go.ChangeAt Go.RowKit
set_option linter.unusedVariables false
set_option linter.unusedSimpArgs false

/-! ### Numbers that are alike. -/
theorem fop_cn (op : BinOp) (x y : Nat) : fop op (cn x) (cn y) = fop op x y := by unfold fop cn; rw [bits_cn]
theorem fop_eq {op : BinOp} {x y x' y' : Nat} (h : cn x = cn x') (h' : cn y = cn y') : fop op x y = fop op x' y' := by rw [← fop_cn op x y, h, h', fop_cn]
theorem cn_cn (x : Nat) : cn (cn x) = cn x := cnk_cnk _ _
theorem cn_fop (op : BinOp) (x y : Nat) : cn (fop op x y) = fop op x y := cnk_cnk _ _
theorem cn_res (op : BinOp) (x y : Nat) (w : World) : cn (fres op x y w) = fop op x y := by rw [cn_fres, fop_cn]
theorem cn_num {b : Nat} (h : isN .f32 b = false) : cn b = b := cnk_of_not h
theorem isN_cn (b : Nat) : isN .f32 (cn b) = isN .f32 b := isN_cnk _ _
@[irreducible] def fgt (a b : Nat) : Bool := FloatKind.f32.format.order a b == some .gt
theorem fgt_eq (a b : Nat) : (FloatKind.f32.format.order a b == some .gt) = fgt a b := by unfold fgt; rfl
theorem fge_cn (x y : Nat) : fge (cn x) (cn y) = fge x y := by unfold fge cn; rw [order_cn]
theorem fle_cn (x y : Nat) : fle (cn x) (cn y) = fle x y := by unfold fle cn; rw [order_cn]
theorem flt_cn (x y : Nat) : flt (cn x) (cn y) = flt x y := by unfold flt cn; rw [order_cn]
theorem fgt_cn (x y : Nat) : fgt (cn x) (cn y) = fgt x y := by unfold fgt cn; rw [order_cn]
theorem feq_cn (x y : Nat) : feq (cn x) (cn y) = feq x y := by unfold feq cn; rw [order_cn]
theorem fge_al {x x' : Nat} (h : cn x = cn x') (y : Nat) : fge x y = fge x' y := by rw [← fge_cn, h, fge_cn]
theorem fle_al {x x' : Nat} (h : cn x = cn x') (y : Nat) : fle x y = fle x' y := by rw [← fle_cn, h, fle_cn]
theorem flt_al {x x' : Nat} (h : cn x = cn x') (y : Nat) : flt x y = flt x' y := by rw [← flt_cn, h, flt_cn]
theorem fgt_al {x x' : Nat} (h : cn x = cn x') (y : Nat) : fgt x y = fgt x' y := by rw [← fgt_cn, h, fgt_cn]
theorem feq_al {x x' : Nat} (h : cn x = cn x') (y : Nat) : feq x y = feq x' y := by rw [← feq_cn, h, feq_cn]
theorem fgt_al2 {x x' y y' : Nat} (h : cn x = cn x') (h' : cn y = cn y') : fgt x y = fgt x' y' := by rw [← fgt_cn, h, h', fgt_cn]
theorem flt_al2 {x x' y y' : Nat} (h : cn x = cn x') (h' : cn y = cn y') : flt x y = flt x' y' := by rw [← flt_cn, h, h', flt_cn]
theorem fge_al2 {x x' y y' : Nat} (h : cn x = cn x') (h' : cn y = cn y') : fge x y = fge x' y' := by rw [← fge_cn, h, h', fge_cn]
theorem fle_al2 {x x' y y' : Nat} (h : cn x = cn x') (h' : cn y = cn y') : fle x y = fle x' y' := by rw [← fle_cn, h, h', fle_cn]
theorem feq_al2 {x x' y y' : Nat} (h : cn x = cn x') (h' : cn y = cn y') : feq x y = feq x' y' := by rw [← feq_cn, h, h', feq_cn]
theorem fop_res_l (op op' : BinOp) (x y z : Nat) (w : World) : fop op (fres op' x y w) z = fop op (fop op' x y) z := fop_eq (by rw [cn_res, cn_fop]) rfl
theorem fop_res_r (op op' : BinOp) (x y z : Nat) (w : World) : fop op z (fres op' x y w) = fop op z (fop op' x y) := fop_eq rfl (by rw [cn_res, cn_fop])
theorem plain_al {x x' : Nat} (h : cn x = cn x') : plain x = plain x' := by unfold plain; rw [fge_al h, fle_al h]
theorem amount_al {x x' : Nat} (h : cn x = cn x') : amount x = amount x' := by unfold amount; rw [plain_al h, fge_al h]
theorem al_eq {x x' : Nat} (h : cn x = cn x') (hn : isN .f32 x' = false) : x = x' := by
  have h2 : isN .f32 x = false := by rw [← isN_cn, h, isN_cn, hn]
  rw [cn_num h2, cn_num hn] at h; exact h

/-! ### What flows. -/
/-- The joint of two conductances. -/
def joint (a b : Nat) : Nat := if fgt a 0 && fgt b 0 then fop .quo (fop .mul 1073741824 (fop .mul a b)) (fop .add a b) else 0
theorem joint_al {a a' b b' : Nat} (h : cn a = cn a') (h' : cn b = cn b') : joint a b = joint a' b' := by
  unfold joint; rw [fgt_al h, fgt_al h', fop_eq h h' (op := .mul), fop_eq h h' (op := .add)]
theorem cn_joint (a b : Nat) : cn (joint a b) = joint a b := by
  unfold joint; split
  · exact cn_fop _ _ _
  · decide
/-- The cell on a side of a cell, or -1. -/
def besX (c s : Nat) : Int := (c : Int) % 8 + (if s = 1 then 1 else if s = 3 then -1 else 0)
def besY (c s : Nat) : Int := (c : Int) / 8 + (if s = 0 then -1 else if s = 2 then 1 else 0)
def besIn (g : Gr) (c s : Nat) : Bool := (decide (0 ≤ besX c s) && decide (besX c s < g.wide)) && (decide (0 ≤ besY c s) && decide (besY c s < g.high))
def bes (g : Gr) (c s : Nat) : Int := if besIn g c s then besX c s + 8 * besY c s else -1
/-- Not greater than there is room. -/
def Gr.small (g : Gr) : Prop := g.wide ≤ 8 ∧ g.high ≤ 8
theorem bes_lt {g : Gr} (hs : g.small) (c s : Nat) : -1 ≤ bes g c s ∧ bes g c s < 64 := by
  obtain ⟨h1, h2⟩ := hs
  unfold bes besIn
  split
  · rename_i h; simp at h; omega
  · omega
/-- Is there a neighbour? -/
def nbr (g : Gr) (c s : Nat) : Bool := decide (0 ≤ bes g c s)
def nx (g : Gr) (c s : Nat) : Nat := (bes g c s).toNat
theorem nx_lt {g : Gr} (hs : g.small) (c s : Nat) : nx g c s < 64 := by have := bes_lt hs c s; unfold nx; omega
/-- What flows to the neighbour. -/
def flw (g : Gr) (c s : Nat) : Nat := fop .mul (joint (g.con c) (g.con (nx g c s))) (fop .sub (g.hea c) (g.hea (nx g c s)))
/-- The balance behind the first k sides. -/
def balTo (g : Gr) (c : Nat) : Nat → Nat
  | 0 => cn (g.gai c)
  | k + 1 => if nbr g c k then fop .sub (balTo g c k) (flw g c k) else balTo g c k
def bal (g : Gr) (c : Nat) : Nat := balTo g c 4
theorem cn_balTo (g : Gr) (c k : Nat) : cn (balTo g c k) = balTo g c k := by
  induction k with
  | zero => exact cn_cn _
  | succ k ih => unfold balTo; split
                 · exact cn_fop _ _ _
                 · exact ih
/-- Is a number finite? -/
def fin (b : Nat) : Bool := feq (fop .sub b b) 0
theorem fin_al {b b' : Nat} (h : cn b = cn b') : fin b = fin b' := by unfold fin; rw [fop_eq h h]
def notFin (g : Gr) (k : Nat) : Bool := isC g k && !fin (bal g k)
def balsOk (g : Gr) : Bool := !anyTo (notFin g) (fun i => i) 64
/-- Is cell k fixed? -/
@[irreducible] def isFx (g : Gr) (k : Nat) : Bool := decide (g.fix / 2 ^ k % 2 = 1)

/-! ### Grounds that are alike. -/
theorem isC_eq {g g' : Gr} (h1 : g.wide = g'.wide) (h2 : g.high = g'.high) (k : Nat) : isC g k = isC g' k := by unfold isC; rw [h1, h2]
theorem cellsTo_eq {g g' : Gr} (h1 : g.wide = g'.wide) (h2 : g.high = g'.high) (k : Nat) : cellsTo g k = cellsTo g' k := by
  unfold cellsTo; congr 1; funext i; exact isC_eq h1 h2 i
theorem anyTo_congr {α : Type} {q q' : α → Bool} {P P' : Nat → α} : ∀ {n : Nat}, (∀ i, i < n → q (P i) = q' (P' i)) → anyTo q P n = anyTo q' P' n
  | 0, _ => rfl
  | n + 1, h => by simp only [anyTo]; rw [anyTo_congr (fun i hi => h i (by omega)), h n (by omega)]
theorem fieldIs_al {q : Nat → Bool} (hq : ∀ a b, cn a = cn b → q a = q b) {g g' : Gr} (h1 : g.wide = g'.wide) (h2 : g.high = g'.high) {f f' : Nat → Nat} (hf : ∀ k, k < 64 → cn (f k) = cn (f' k)) : fieldIs q g f = fieldIs q g' f' := by
  unfold fieldIs
  rw [anyTo_congr (q' := badAt q g' f') (P' := fun i => i) fun i hi => by unfold badAt; rw [isC_eq h1 h2, hq _ _ (hf i hi), feq_al (hf i hi)]]
theorem validG_al {g g' : Gr} (h : GrEq g g') : validG g = validG g' := by
  unfold validG fixOk
  rw [h.wide, h.high, h.fix, cellsTo_eq h.wide h.high, fieldIs_al (fun _ _ => amount_al) h.wide h.high h.con, fieldIs_al (fun _ _ => plain_al) h.wide h.high h.gai, fieldIs_al (fun _ _ => plain_al) h.wide h.high h.hea]
theorem fieldIs_at {q : Nat → Bool} {g : Gr} {f : Nat → Nat} (h : fieldIs q g f = true) (k : Nat) (hk : k < 64) : (isC g k = true → q (f k) = true) ∧ (isC g k = false → feq (f k) 0 = true) := by
  unfold fieldIs at h
  have h1 := anyTo_false.1 (by simpa using h) k hk
  unfold badAt at h1
  cases hc : isC g k <;> simp [hc] at h1 ⊢ <;> exact h1
theorem feq_num {a : Nat} (h : feq a 0 = true) : isN .f32 a = false := by
  cases hn : isN .f32 a
  · rfl
  · unfold feq at h; rw [order_nan_left hn] at h; simp at h
theorem amount_num {a : Nat} (h : amount a = true) : isN .f32 a = false := plain_num (by unfold amount at h; exact (Bool.and_eq_true_iff.1 h).1)
theorem fieldIs_num {q : Nat → Bool} (hq : ∀ a, q a = true → isN .f32 a = false) {g : Gr} {f : Nat → Nat} (h : fieldIs q g f = true) (k : Nat) (hk : k < 64) : isN .f32 (f k) = false := by
  have h1 := fieldIs_at h k hk
  cases hc : isC g k
  · exact feq_num (h1.2 hc)
  · exact hq _ (h1.1 hc)
theorem validG_parts {g : Gr} (h : validG g = true) : (2 ≤ g.wide ∧ g.wide ≤ 8) ∧ (2 ≤ g.high ∧ g.high ≤ 8) ∧ fieldIs amount g g.con = true ∧ fieldIs plain g g.gai = true ∧ fieldIs plain g g.hea = true ∧ fixOk g = true := by
  unfold validG at h
  simp only [Bool.and_eq_true, decide_eq_true_eq] at h
  exact h
theorem validG_small {g : Gr} (h : validG g = true) : g.small := by have := validG_parts h; exact ⟨this.1.2, this.2.1.2⟩
/-- Cells depend on the numbers that there are. -/
theorem Gr.cells_eq {g g' : Gr} (h0 : g.wide = g'.wide) (h1 : g.high = g'.high) (hf : g.fix = g'.fix) (hc : ∀ k, k < 64 → g.con k = g'.con k) (hg : ∀ k, k < 64 → g.gai k = g'.gai k) (hh : ∀ k, k < 64 → g.hea k = g'.hea k) : g.cells = g'.cells := by
  apply Gr.cells_of
  · exact g.size
  · intro i hi
    rw [g.get i hi]
    unfold Gr.at
    congr 1
    by_cases i0 : i = 0
    · simp [i0, h0]
    · by_cases i1 : i = 1
      · simp [i1, h1]
      · simp only [i0, i1, if_false]
        by_cases i2 : i < 66
        · simp only [i2, if_true]; rw [hc _ (by omega)]
        · by_cases i3 : i < 130
          · simp only [i2, i3, if_true, if_false]; rw [hg _ (by omega)]
          · by_cases i4 : i < 194
            · simp only [i2, i3, i4, if_true, if_false]; rw [hh _ (by omega)]
            · simp only [i2, i3, i4, if_false]; rw [hf]
/-- A ground that is alike to a valid one is that one. -/
theorem GrEq.cells {g g' : Gr} (h : GrEq g g') (hv : validG g' = true) : g.cells = g'.cells := by
  obtain ⟨_, _, hc, hg, hh, _⟩ := validG_parts hv
  exact Gr.cells_eq h.wide h.high h.fix (fun k hk => al_eq (h.con k hk) (fieldIs_num (fun _ => amount_num) hc k hk)) (fun k hk => al_eq (h.gai k hk) (fieldIs_num (fun _ => plain_num) hg k hk)) (fun k hk => al_eq (h.hea k hk) (fieldIs_num (fun _ => plain_num) hh k hk))
theorem GrEq.symm {g g' : Gr} (h : GrEq g g') : GrEq g' g := ⟨h.wide.symm, h.high.symm, h.fix.symm, fun k hk => (h.con k hk).symm, fun k hk => (h.gai k hk).symm, fun k hk => (h.hea k hk).symm⟩
theorem GrEq.trans {g g' g'' : Gr} (h : GrEq g g') (h' : GrEq g' g'') : GrEq g g'' := ⟨h.wide.trans h'.wide, h.high.trans h'.high, h.fix.trans h'.fix, fun k hk => (h.con k hk).trans (h'.con k hk), fun k hk => (h.gai k hk).trans (h'.gai k hk), fun k hk => (h.hea k hk).trans (h'.hea k hk)⟩
theorem bes_eq {g g' : Gr} (h1 : g.wide = g'.wide) (h2 : g.high = g'.high) (c s : Nat) : bes g c s = bes g' c s := by unfold bes besIn; rw [h1, h2]
theorem flw_al {g g' : Gr} (hs : g.small) (h : GrEq g g') (c s : Nat) (hc : c < 64) : flw g c s = flw g' c s := by
  have hn := nx_lt hs c s
  have e : nx g' c s = nx g c s := by unfold nx; rw [bes_eq h.wide h.high]
  unfold flw
  rw [e, joint_al (h.con c hc) (h.con _ hn), fop_eq (h.hea c hc) (h.hea _ hn)]
theorem balTo_al {g g' : Gr} (hs : g.small) (h : GrEq g g') (c : Nat) (hc : c < 64) : ∀ k, balTo g c k = balTo g' c k
  | 0 => h.gai c hc
  | k + 1 => by unfold balTo; rw [balTo_al hs h c hc k, flw_al hs h c k hc]; unfold nbr; rw [bes_eq h.wide h.high]

/-! ### Steps. -/
def zeroG : Gr := ⟨0, 0, fun _ => 0, fun _ => 0, fun _ => 0, 0⟩
/-- The head of a cell behind a step. -/
def stepH (g : Gr) (part : Nat) (k : Nat) : Nat := if isC g k && !isFx g k then fop .add (g.hea k) (fop .mul part (bal g k)) else g.hea k
def stepG (g : Gr) (part : Nat) : Gr := { g with hea := stepH g part }
/-- Is there a step? -/
def stepIs (g : Gr) (part : Nat) : Bool := balsOk g && validG (stepG g part)
def stepR (g : Gr) (part : Nat) : Gr := if stepIs g part then stepG g part else zeroG
def stepC (g : Gr) (part : Nat) : Int := if stepIs g part then 0 else 4

/-! ### Settled heads. -/
def aboveTo (g : Gr) (c : Nat) : Nat → Nat
  | 0 => cn (g.gai c)
  | k + 1 => if nbr g c k then fop .add (aboveTo g c k) (fop .mul (joint (g.con c) (g.con (nx g c k))) (g.hea (nx g c k))) else aboveTo g c k
def belowTo (g : Gr) (c : Nat) : Nat → Nat
  | 0 => 0
  | k + 1 => if nbr g c k then fop .add (belowTo g c k) (joint (g.con c) (g.con (nx g c k))) else belowTo g c k
def sett (g : Gr) (c : Nat) : Nat := if isFx g c || feq (belowTo g c 4) 0 then cn (g.hea c) else fop .quo (aboveTo g c 4) (belowTo g c 4)
theorem aboveTo_al {g g' : Gr} (hs : g.small) (h : GrEq g g') (c : Nat) (hc : c < 64) : ∀ k, aboveTo g c k = aboveTo g' c k
  | 0 => h.gai c hc
  | k + 1 => by
    have hn := nx_lt hs c k
    have e : nx g' c k = nx g c k := by unfold nx; rw [bes_eq h.wide h.high]
    unfold aboveTo
    rw [aboveTo_al hs h c hc k, e, joint_al (h.con c hc) (h.con _ hn), fop_eq (op := .mul) rfl (h.hea _ hn)]
    unfold nbr; rw [bes_eq h.wide h.high]
theorem belowTo_al {g g' : Gr} (hs : g.small) (h : GrEq g g') (c : Nat) (hc : c < 64) : ∀ k, belowTo g c k = belowTo g' c k
  | 0 => rfl
  | k + 1 => by
    have hn := nx_lt hs c k
    have e : nx g' c k = nx g c k := by unfold nx; rw [bes_eq h.wide h.high]
    unfold belowTo
    rw [belowTo_al hs h c hc k, e, joint_al (h.con c hc) (h.con _ hn)]
    unfold nbr; rw [bes_eq h.wide h.high]
theorem sett_al {g g' : Gr} (hs : g.small) (h : GrEq g g') (c : Nat) (hc : c < 64) : sett g c = sett g' c := by
  unfold sett
  rw [aboveTo_al hs h c hc, belowTo_al hs h c hc, h.hea c hc]
  have : isFx g c = isFx g' c := by unfold isFx; rw [h.fix]
  rw [this]
theorem cn_sett (g : Gr) (c : Nat) : cn (sett g c) = sett g c := by
  unfold sett; split
  · exact cn_cn _
  · exact cn_fop _ _ _
/-- The ground behind the first k cells of a sweep. -/
def sweepTo (g : Gr) : Nat → Gr
  | 0 => g
  | k + 1 => if isC g k then { sweepTo g k with hea := upd (sweepTo g k).hea k (sett (sweepTo g k) k) } else sweepTo g k
theorem sweepTo_same (g : Gr) : ∀ k, (sweepTo g k).wide = g.wide ∧ (sweepTo g k).high = g.high ∧ (sweepTo g k).fix = g.fix ∧ (sweepTo g k).con = g.con ∧ (sweepTo g k).gai = g.gai
  | 0 => ⟨rfl, rfl, rfl, rfl, rfl⟩
  | k + 1 => by unfold sweepTo; split <;> exact sweepTo_same g k
theorem GrEq.upd {g g' : Gr} (h : GrEq g g') {k b b' : Nat} (hb : cn b = cn b') : GrEq { g with hea := upd g.hea k b } { g' with hea := upd g'.hea k b' } :=
  ⟨h.wide, h.high, h.fix, h.con, h.gai, fun i hi => by
    unfold Go.Proofs.Ytglimhkpndfjgaa.upd
    by_cases hik : i = k
    · simp only [hik, if_true]; exact hb
    · simp only [hik, if_false]; exact h.hea i hi⟩
end Go.Proofs.Ytglimhkpndfjgaa
