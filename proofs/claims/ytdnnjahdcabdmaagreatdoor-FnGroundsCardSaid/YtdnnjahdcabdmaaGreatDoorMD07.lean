import Derived.Test.YtdnnjahdcabdmaaGreatDoorMD01
import Derived.Orders
import Derived.Test.YtdnnjahdcabdmaaGreatDoorMD03
/- A region that draws its order, walked once although what a slot holds may depend on the order drawn (a NaN's bits, a fresh block): each slot's value is known up to a property. A plain law; no statement is proved here. -/
namespace Go.Proofs.YtdnnjahdcabdmaaGreatDoor
open Go.ChangeShapes Go.WideShapes Go.ChangeAt Go.RowKit
set_option linter.unusedVariables false
set_option linter.unusedSimpArgs false

/-- How many of the first k operations have not come up. -/
def unl (listed : Array Bool) : Nat → Nat
  | 0 => 0
  | k + 1 => unl listed k + (if listed.getD k true = false then 1 else 0)
theorem unl_set (listed : Array Bool) (i : Nat) (hi : listed.getD i true = false) : ∀ k, unl (listed.setIfInBounds i true) k + (if i < k then 1 else 0) = unl listed k
  | 0 => by simp [unl]
  | k + 1 => by
    have ih := unl_set listed i hi k
    have hlt : i < listed.size := by
      rcases Nat.lt_or_ge i listed.size with h | h
      · exact h
      · simp [Array.getElem?_eq_none h] at hi
    simp only [unl]
    by_cases hik : i = k
    · subst hik
      have e1 : (listed.setIfInBounds i true).getD i true = true := by simp [hlt]
      rw [e1, hi]
      simp only [Nat.lt_irrefl, if_false, Nat.lt_succ_self, if_true] at ih ⊢
      simp at ih ⊢; omega
    · rw [getD_set_ne true hik]
      by_cases h2 : i < k
      · rw [if_pos h2] at ih
        have e : (if i < k + 1 then 1 else 0) = 1 := if_pos (by omega)
        rw [e]; omega
      · rw [if_neg h2] at ih
        have e : (if i < k + 1 then 1 else 0) = 0 := if_neg (by omega)
        rw [e]; omega
theorem unl_zero {listed : Array Bool} : ∀ {k : Nat}, unl listed k = 0 → ∀ i, i < k → listed.getD i true = true
  | 0, _, i, hi => by omega
  | k + 1, h, i, hi => by
    simp only [unl] at h
    by_cases hik : i = k
    · subst hik
      cases hb : listed.getD i true
      · rw [hb] at h; simp at h
      · rfl
    · exact unl_zero (k := k) (by omega) i (by omega)
theorem getD_false {listed : Array Bool} {i : Nat} (h : listed.getD i false = true) : listed.getD i true = true := by
  rcases Nat.lt_or_ge i listed.size with h' | h'
  · simp [h'] at h ⊢; exact h
  · simp [Array.getElem?_eq_none h'] at h
theorem getD_true {listed : Array Bool} {i : Nat} (hi : i < listed.size) (h : listed.getD i true = true) : listed.getD i false = true := by
  simp [hi] at h ⊢; exact h

/-- The slots that the operations write. -/
def dstsOf (l : List Oper) : List Nat := l.filterMap (·.dst)
/-- The form that such a region must have: each operation waits only for earlier ones, and for all whose slots it looks at; no slot is written twice. -/
def looseB (l : List Oper) : Bool :=
  (dstsOf l).Nodup && (List.range l.length).all fun i => match l[i]? with
    | none => true
    | some o => o.after.toList.all (fun e => decide (e.on < i) || !Region.binds .any e) && (o.looksAt l.toArray).all fun s => (List.range l.length).all fun j => match l[j]? with
      | none => true
      | some o' => o'.dst != some s || o.after.toList.any fun e => e.on == j && Region.binds .any e

section
variable {P : Program} {l : List Oper} {C : World → Prop} {R : World → World → Prop} {F : World → Nat → Value → Prop} {s0 : Array Value} {df : List Deferred}

/-- What is known of a slot's value. -/
def Gs (l : List Oper) (F : World → Nat → Value → Prop) (s0 : Array Value) (w : World) (s : Nat) (v : Value) : Prop := if s ∈ dstsOf l then F w s v else v = s0.getD s undef
/-- What an operation's end must be. -/
def Good (P : Program) (C : World → Prop) (R : World → World → Prop) (F : World → Nat → Value → Prop) (o : Oper) (w : World) : Result Next → Prop
  | .ok (.value v) w' => C w' ∧ R w w' ∧ ∀ d, o.dst = some d → F w' d v
  | .ok .skip w' => C w' ∧ R w w' ∧ ∀ d, o.dst = some d → F w' d undef
  | .ok (.enter f args) w' => Calls P f args w' fun e w'' => ∃ v, e = .returned v ∧ C w'' ∧ R w w'' ∧ ∀ d, o.dst = some d → F w'' d v
  | _ => False
/-- What one operation must do. -/
def LooseStep (P : Program) (l : List Oper) (C : World → Prop) (R : World → World → Prop) (F : World → Nat → Value → Prop) (o : Oper) (a : Act) (w : World) : Prop :=
  if Region.wanted o (yielded l.toArray a.tmps) then Good P C R F o w ((execOp a.eval o).run P w) else ∀ d, o.dst = some d → F w d undef

/-- The invariant. -/
structure LInv (l : List Oper) (C : World → Prop) (F : World → Nat → Value → Prop) (s0 : Array Value) (df : List Deferred) (listed : Array Bool) (a : Act) (w : World) : Prop where
  ls : listed.size = l.length
  cls : C w
  dfs : a.defers = df
  size : a.tmps.size = s0.size
  rest : ∀ s, s ∉ dstsOf l → a.tmps.getD s undef = s0.getD s undef
  done : ∀ (j : Nat) (o : Oper) (d : Nat), l[j]? = some o → listed.getD j false = true → o.dst = some d → F w d (a.tmps.getD d undef)

theorem nodup_dst : ∀ {l : List Oper}, (dstsOf l).Nodup → ∀ {i j : Nat} {o o' : Oper} {d : Nat}, l[i]? = some o → l[j]? = some o' → o.dst = some d → o'.dst = some d → i = j
  | [], _, i, _, _, _, _, h, _, _, _ => by simp at h
  | x :: l, hn, i, j, o, o', d, hi, hj, ho, ho' => by
    have hsplit : (dstsOf l).Nodup ∧ ∀ d, x.dst = some d → d ∉ dstsOf l := by
      unfold dstsOf at hn ⊢
      cases hx : x.dst with
      | none => simp [List.filterMap_cons, hx] at hn ⊢; exact hn
      | some d => simp only [List.filterMap_cons, hx, List.nodup_cons] at hn; exact ⟨hn.2, fun d' hd' => by injection hd' with hd'; subst hd'; exact hn.1⟩
    have hmem : ∀ {k : Nat} {q : Oper}, l[k]? = some q → q.dst = some d → d ∈ dstsOf l := fun hk hq => by
      unfold dstsOf; exact List.mem_filterMap.2 ⟨_, List.mem_of_getElem? hk, hq⟩
    match i, j with
    | 0, 0 => rfl
    | 0, j + 1 =>
      simp at hi hj; subst hi
      exact absurd (hmem hj ho') (hsplit.2 d ho)
    | i + 1, 0 =>
      simp at hi hj; subst hj
      exact absurd (hmem hi ho) (hsplit.2 d ho')
    | i + 1, j + 1 =>
      simp at hi hj
      rw [nodup_dst hsplit.1 hi hj ho ho']

theorem LInv.put {listed : Array Bool} {a : Act} {w w' : World} (hmono : ∀ d v, F w d v → F w' d v) (hn : (dstsOf l).Nodup) (hd0 : ∀ d ∈ dstsOf l, d < s0.size) (h : LInv l C F s0 df listed a w) {i : Nat} {o : Oper} (hi : l[i]? = some o) (hun : listed.getD i true = false) {v : Value} (hC : C w') (hv : ∀ d, o.dst = some d → F w' d v) :
    LInv l C F s0 df (listed.setIfInBounds i true) (a.put o.dst v) w' := by
  cases hd : o.dst with
  | none =>
    refine ⟨by simpa using h.ls, hC, h.dfs, h.size, h.rest, fun j o' d hj hl ho' => ?_⟩
    by_cases hij : i = j
    · subst hij; rw [hi] at hj; injection hj with hj; subst hj; rw [hd] at ho'; cases ho'
    · rw [getD_set_ne false hij] at hl; exact hmono _ _ (h.done j o' d hj hl ho')
  | some d =>
    have hmem : d ∈ dstsOf l := by unfold dstsOf; exact List.mem_filterMap.2 ⟨_, List.mem_of_getElem? hi, hd⟩
    have hlt := hd0 d hmem
    refine ⟨by simpa using h.ls, hC, h.dfs, by simpa [Act.put] using h.size, fun s hs => ?_, fun j o' d' hj hl ho' => ?_⟩
    · have hsd : d ≠ s := fun e => hs (e ▸ hmem)
      have := h.rest s hs
      simp only [Act.put]
      rw [← this]
      simp [Array.getElem?_setIfInBounds_ne hsd]
    · by_cases hij : i = j
      · subst hij; rw [hi] at hj; injection hj with hj; subst hj
        rw [hd] at ho'; injection ho' with ho'; subst ho'
        have : (a.put (some d) v).tmps.getD d undef = v := by simp [Act.put, h.size, hlt]
        rw [this]; exact hv d hd
      · rw [getD_set_ne false hij] at hl
        have hdd : d ≠ d' := fun e => by subst e; exact hij (nodup_dst hn hi hj hd ho')
        have := h.done j o' d' hj hl ho'
        have e2 : (a.put (some d) v).tmps.getD d' undef = a.tmps.getD d' undef := by simp [Act.put, Array.getElem?_setIfInBounds_ne hdd]
        rw [e2]; exact hmono _ _ this

theorem LInv.all {listed : Array Bool} {a : Act} {w : World} (h : LInv l C F s0 df listed a w) {k : Nat} (hk : unl listed k = 0) (hkl : l.length ≤ k) : ∀ d, d ∈ dstsOf l → F w d (a.tmps.getD d undef) := by
  intro d hd
  unfold dstsOf at hd
  obtain ⟨o, ho, hod⟩ := List.mem_filterMap.1 hd
  obtain ⟨j, hj⟩ := List.getElem?_of_mem ho
  have hjl : j < l.length := by
    rcases Nat.lt_or_ge j l.length with h' | h'
    · exact h'
    · rw [List.getElem?_eq_none h'] at hj; cases hj
  exact h.done j o d hj (getD_true (by rw [h.ls]; exact hjl) (unl_zero hk j (by omega))) hod

theorem loose_spec (hB : looseB l = true) : (dstsOf l).Nodup ∧ ∀ (i : Nat) (o : Oper), l[i]? = some o → (∀ e ∈ o.after, Region.binds .any e = true → e.on < i) ∧ ∀ s ∈ o.looksAt l.toArray, ∀ (j : Nat) (o' : Oper), l[j]? = some o' → o'.dst = some s → ∃ e ∈ o.after, e.on = j ∧ Region.binds .any e = true := by
  unfold looseB at hB
  simp only [Bool.and_eq_true, decide_eq_true_eq, List.all_eq_true, List.mem_range] at hB
  refine ⟨hB.1, fun i o hi => ?_⟩
  have hil : i < l.length := by
    rcases Nat.lt_or_ge i l.length with h' | h'
    · exact h'
    · rw [List.getElem?_eq_none h'] at hi; cases hi
  have h1 := hB.2 i hil
  rw [hi] at h1
  simp only [Bool.and_eq_true, List.all_eq_true, decide_eq_true_eq] at h1
  refine ⟨fun e he hb => by
    have := h1.1 e (by simpa using he)
    rw [hb] at this
    simpa using this, fun s hs j o' hj hod => ?_⟩
  have hjl : j < l.length := by
    rcases Nat.lt_or_ge j l.length with h' | h'
    · exact h'
    · rw [List.getElem?_eq_none h'] at hj; cases hj
  have h2 := h1.2 s hs j (List.mem_range.2 hjl)
  rw [hj] at h2
  simp only [hod, bne_self_eq_false, Bool.false_or, List.any_eq_true, Bool.and_eq_true, beq_iff_eq] at h2
  obtain ⟨e, he, h3, h4⟩ := h2
  exact ⟨e, by simpa using he, h3, h4⟩

theorem loose_wpAny (hB : looseB l = true) (hd0 : ∀ d ∈ dstsOf l, d < s0.size) {Q : Exit → Act → World → Prop} (hmono : ∀ w w' d v, R w w' → F w d v → F w' d v)
    (hstep : ∀ (i : Nat) (o : Oper), l[i]? = some o → ∀ a w, C w → (∀ s ∈ o.looksAt l.toArray, Gs l F s0 w s (a.tmps.getD s undef)) → LooseStep P l C R F o a w)
    (hend : ∀ a w, C w → a.defers = df → a.tmps.size = s0.size → (∀ s, s ∉ dstsOf l → a.tmps.getD s undef = s0.getD s undef) → (∀ d ∈ dstsOf l, F w d (a.tmps.getD d undef)) → Q .normal a w) :
    ∀ (fuel : Nat) (listed : Array Bool) (a : Act) (w : World), unl listed l.length ≤ fuel → LInv l C F s0 df listed a w → wpAny P .any l.toArray Q fuel listed a w := by
  obtain ⟨hn, hspec⟩ := loose_spec hB
  have noneReady : ∀ (listed : Array Bool), listed.size = l.length → Region.ready .any l.toArray listed = [] → unl listed l.length = 0 := by
    intro listed hsz hr
    have : ∀ k, k ≤ l.length → unl listed k = 0 := by
      intro k
      induction k with
      | zero => intro _; rfl
      | succ k ih =>
        intro hk
        have ihk := ih (by omega)
        simp only [unl, ihk]
        cases hb : listed.getD k true with
        | true => simp
        | false =>
          exfalso
          have hkl : k < l.length := by omega
          have hmem : k ∈ Region.ready .any l.toArray listed := mem_ready.2 ⟨hb, l[k], by simp [hkl], fun e he hbd => by
            have := (hspec k l[k] (by simp [hkl])).1 e he hbd
            exact getD_true (by omega) (unl_zero ihk e.on this)⟩
          rw [hr] at hmem; cases hmem
    exact this _ (Nat.le_refl _)
  intro fuel
  induction fuel with
  | zero =>
    intro listed a w hu hI
    have h0 : unl listed l.length = 0 := by omega
    refine ⟨?_, hend a w hI.cls hI.dfs hI.size hI.rest (hI.all h0 (Nat.le_refl _))⟩
    cases hr : Region.ready .any l.toArray listed with
    | nil => rfl
    | cons i is =>
      exfalso
      have hi : i ∈ Region.ready .any l.toArray listed := by rw [hr]; exact List.mem_cons_self
      obtain ⟨hun, o, ho, _⟩ := mem_ready.1 hi
      have hil : i < l.length := by
        rcases Nat.lt_or_ge i l.length with h' | h'
        · exact h'
        · simp [List.getElem?_eq_none h'] at ho
      rw [unl_zero h0 i hil] at hun; cases hun
  | succ fuel ih =>
    intro listed a w hu hI
    refine ⟨fun hr => ?_, fun i hi => ?_⟩
    · exact hend a w hI.cls hI.dfs hI.size hI.rest (hI.all (noneReady listed hI.ls hr) (Nat.le_refl _))
    · obtain ⟨hun, o, ho, hall⟩ := mem_ready.1 hi
      have ho' : l[i]? = some o := by simpa using ho
      have hil : i < l.length := by
        rcases Nat.lt_or_ge i l.length with h' | h'
        · exact h'
        · rw [List.getElem?_eq_none h'] at ho'; cases ho'
      have hlook : ∀ s ∈ o.looksAt l.toArray, Gs l F s0 w s (a.tmps.getD s undef) := by
        intro s hs
        unfold Gs
        split
        · rename_i hsd
          unfold dstsOf at hsd
          obtain ⟨o2, ho2, hod⟩ := List.mem_filterMap.1 hsd
          obtain ⟨j, hj⟩ := List.getElem?_of_mem ho2
          obtain ⟨e, he, h3, h4⟩ := (hspec i o ho').2 s hs j o2 hj hod
          have := hall e he h4
          rw [h3] at this
          exact hI.done j o2 s hj this hod
        · rename_i hsd
          exact hI.rest s hsd
      have hst := hstep i o ho' a w hI.cls hlook
      have hcnt := unl_set listed i hun l.length
      rw [if_pos hil] at hcnt
      have next : ∀ v w', C w' → (∀ d v, F w d v → F w' d v) → (∀ d, o.dst = some d → F w' d v) → wpAny P .any l.toArray Q fuel (listed.setIfInBounds i true) (a.put o.dst v) w' := fun v w' hC hm hv =>
        ih _ _ _ (by omega) (hI.put hm hn hd0 ho' hun hC hv)
      unfold wpOp
      rw [ho]
      show if Region.wanted o (yielded l.toArray a.tmps) = true then _ else _
      unfold LooseStep at hst
      split
      · rename_i hw
        rw [if_pos hw] at hst
        refine .inl ?_
        unfold Oper.wp
        generalize (execOp a.eval o).run P w = r at hst
        cases r with
        | ok n w' =>
          cases n <;> simp only [Oper.upon, Good] at hst ⊢
          case value v => exact next v w' hst.1 (fun d u => hmono _ _ d u hst.2.1) hst.2.2
          case skip => exact next undef w' hst.1 (fun d u => hmono _ _ d u hst.2.1) hst.2.2
          case enter f args => exact hst.mono fun e w'' ⟨v, he, hC, hR, hv⟩ => by subst he; exact next v w'' hC (fun d u => hmono _ _ d u hR) hv
        | halt x w' => exact hst.elim
      · rename_i hw
        rw [if_neg hw] at hst
        exact next undef w hI.cls (fun _ _ h => h) hst

/-- The frame with new values in the slots ds. -/
def fill (s : List Value) (ds : List Nat) (x : Nat → Value) : List Value := ds.foldl (fun s d => s.set d (x d)) s
theorem fill_length (x : Nat → Value) : ∀ (ds : List Nat) (s : List Value), (fill s ds x).length = s.length
  | [], s => rfl
  | d :: ds, s => by show (fill (s.set d (x d)) ds x).length = _; rw [fill_length x ds]; simp
theorem fill_get (x : Nat → Value) : ∀ (ds : List Nat) (s : List Value) (i : Nat), i < s.length → (fill s ds x)[i]? = if i ∈ ds then some (x i) else s[i]?
  | [], s, i, h => by simp [fill]
  | d :: ds, s, i, h => by
    show (fill (s.set d (x d)) ds x)[i]? = _
    rw [fill_get x ds _ i (by simpa using h)]
    by_cases hi : i ∈ ds
    · simp [hi]
    · by_cases hd : d = i
      · subst hd; simp [hi, h]
      · simp [hi, hd, Ne.symm hd]

/-- ONE WALK SERVES EVERY ORDER, the slots' values being known up to F. -/
theorem wp_region_loose {l : List Oper} {s : List Value} {id : Nat} {Q : Exit → Act → World → Prop} {w : World} (C : World → Prop) (R : World → World → Prop) (F : World → Nat → Value → Prop) (hmono : ∀ w w' d v, R w w' → F w d v → F w' d v) (hm : P.follows .mixedOrders = true) (hB : looseB l = true) (hd0 : (dstsOf l).all (fun d => decide (d < s.length)) = true) (hC : C w.drew)
    (hstep : ∀ (i : Nat) (o : Oper), l[i]? = some o → ∀ a w, C w → (∀ t ∈ o.looksAt l.toArray, Gs l F s.toArray w t (a.tmps.getD t undef)) → LooseStep P l C R F o a w)
    (h : ∀ (x : Nat → Value) (w' : World), (∀ d, d ∈ dstsOf l → F w' d (x d)) → C w' → Q .normal ⟨(fill s (dstsOf l) x).toArray, df⟩ w') : (Code.region id l.toArray true).wp P Q ⟨s.toArray, df⟩ w := by
  have hd0' : ∀ d ∈ dstsOf l, d < s.toArray.size := fun d hd => by
    have := List.all_eq_true.1 hd0 d hd
    simpa using this
  refine wp_region_any hm ?_
  refine loose_wpAny (P := P) (C := C) (R := R) (F := F) (s0 := s.toArray) (df := df) hB hd0' hmono hstep (fun a w' hC hdf hsz hrest hF => ?_) _ _ _ _ ?_ ⟨by simp, hC, rfl, rfl, fun _ _ => rfl, fun j o d _ hl => ?_⟩
  · have e : a = ⟨(fill s (dstsOf l) fun d => a.tmps.getD d undef).toArray, df⟩ := by
      obtain ⟨t, dd⟩ := a
      simp only at hdf hsz hrest hF ⊢
      subst hdf
      congr 1
      have hsz' : t.toList.length = s.length := by simpa using hsz
      have hl : t.toList = fill s (dstsOf l) fun d => t.getD d undef := by
        apply List.ext_getElem?
        intro i
        by_cases hi : i < s.length
        · rw [fill_get _ _ _ i hi]
          have ht : i < t.size := by rw [hsz]; simpa using hi
          have hg : t.getD i undef = t[i] := by simp [ht]
          by_cases hm : i ∈ dstsOf l
          · rw [if_pos hm, hg]; simp [ht]
          · rw [if_neg hm]
            have := hrest i hm
            rw [hg] at this
            simp [ht, this, hi]
        · rw [List.getElem?_eq_none (by omega), List.getElem?_eq_none (by rw [fill_length]; omega)]
      rw [← hl]
    rw [e]
    exact h _ w' hF hC
  · have hle : ∀ (b : Array Bool) k, unl b k ≤ k := by
      intro b k
      induction k with
      | zero => simp [unl]
      | succ k ih => simp only [unl]; split <;> omega
    exact Nat.le_trans (hle _ _) (by simp)
  · exfalso
    rcases Nat.lt_or_ge j l.length with h' | h'
    · simp [h'] at hl
    · simp [h'] at hl

/-- What one operation must do, given what is known of the slots that it looks at. -/
def StepOk (P : Program) (l : List Oper) (C : World → Prop) (R : World → World → Prop) (F : World → Nat → Value → Prop) (s : List Value) (o : Oper) : Prop :=
  ∀ a w, C w → (∀ t ∈ o.looksAt l.toArray, Gs l F s.toArray w t (a.tmps.getD t undef)) → LooseStep P l C R F o a w
theorem wp_loose {l : List Oper} {s : List Value} {id : Nat} {Q : Exit → Act → World → Prop} {w : World} (C : World → Prop) (R : World → World → Prop) (F : World → Nat → Value → Prop) (hmono : ∀ w w' d v, R w w' → F w d v → F w' d v) (hm : P.follows .mixedOrders = true) (hB : looseB l = true) (hd0 : (dstsOf l).all (fun d => decide (d < s.length)) = true) (hC : C w.drew)
    (hstep : ∀ o ∈ l, StepOk P l C R F s o)
    (h : ∀ (x : Nat → Value) (w' : World), (∀ d, d ∈ dstsOf l → F w' d (x d)) → C w' → Q .normal ⟨(fill s (dstsOf l) x).toArray, df⟩ w') : (Code.region id l.toArray true).wp P Q ⟨s.toArray, df⟩ w :=
  wp_region_loose C R F hmono hm hB hd0 hC (fun i o hi => hstep o (List.mem_of_getElem? hi)) h
theorem steps_cons {l' : List Oper} {o : Oper} {p : Oper → Prop} (h : p o) (h' : ∀ x ∈ l', p x) : ∀ x ∈ o :: l', p x := fun x hx => by
  rcases List.mem_cons.1 hx with rfl | hx
  · exact h
  · exact h' x hx
theorem steps_nil {p : Oper → Prop} : ∀ x ∈ ([] : List Oper), p x := fun x hx => by cases hx
section
variable {s : List Value} {o : Oper} {d : Nat}
theorem known_in {n : Nat} {w : World} {v : Value} (h : Gs l F s.toArray w n v) (hm : (dstsOf l).contains n = true) : F w n v := by
  unfold Gs at h; rwa [if_pos (by simpa using hm)] at h
theorem known_out {n : Nat} {w : World} {v u : Value} (h : Gs l F s.toArray w n v) (hm : (dstsOf l).contains n = false) (hu : s[n]? = some u) : v = u := by
  unfold Gs at h; rw [if_neg (by intro h2; rw [List.contains_iff_mem.2 h2] at hm; cases hm)] at h
  rw [h]; simp [hu]
/-- What is known of the slots that an operation looks at. -/
structure Known (l : List Oper) (F : World → Nat → Value → Prop) (s : List Value) (o : Oper) (w : World) (ev : Operand → Value) : Prop where
  get : ∀ t ∈ o.looksAt l.toArray, Gs l F s.toArray w t (ev (.tmp t))
  con : ∀ v, ev (.const v) = v
  fn : ∀ f, ev (.func f) = .func (.func f) #[] #[]
theorem Known.inn {ev : Operand → Value} {w : World} (k : Known l F s o w ev) (n : Nat) (hl : (o.looksAt l.toArray).contains n = true) (hm : (dstsOf l).contains n = true) : F w n (ev (.tmp n)) := known_in (k.get n (by simpa using hl)) hm
theorem Known.out {ev : Operand → Value} {w : World} (k : Known l F s o w ev) (n : Nat) {u : Value} (hl : (o.looksAt l.toArray).contains n = true) (hm : (dstsOf l).contains n = false) (hu : s[n]? = some u) : ev (.tmp n) = u := known_out (k.get n (by simpa using hl)) hm hu
theorem step_go (hgd : o.guard = none) (h : ∀ (ev : Operand → Value) (w : World), C w → Known l F s o w ev → Good P C R F o w ((execOp ev o).run P w)) : StepOk P l C R F s o := fun a w hC hG => by
  unfold LooseStep
  rw [if_pos (by simp [Region.wanted, hgd])]
  exact h a.eval w hC ⟨hG, fun _ => rfl, fun _ => rfl⟩
/-- .. guarded, the guard's slot being known to say b. -/
theorem step_guard {g gs : Nat} {want b : Bool} {og : Oper} (hgd : o.guard = some (g, want)) (hog : l[g]? = some og) (hgs : og.dst = some gs) (hl : (o.looksAt l.toArray).contains gs = true) (hm : (dstsOf l).contains gs = true) (hF : ∀ w v, F w gs v → v = .bool b)
    (hs : b = want → ∀ (ev : Operand → Value) (w : World), C w → Known l F s o w ev → Good P C R F o w ((execOp ev o).run P w)) (hn : b ≠ want → ∀ w d, o.dst = some d → F w d undef) : StepOk P l C R F s o := fun a w hC hG => by
  have hk : Known l F s o w a.eval := ⟨hG, fun _ => rfl, fun _ => rfl⟩
  have hv := hF _ _ (hk.inn gs hl hm)
  have hy : yielded l.toArray a.tmps g = some b := by
    unfold yielded
    have e1 : a.tmps.getD gs undef = .bool b := hv
    have e2 : a.tmps[gs]? = some (.bool b) := by
      rcases Nat.lt_or_ge gs a.tmps.size with h | h
      · simp [h] at e1 ⊢; exact e1
      · simp [Array.getElem?_eq_none h] at e1; cases e1
    simp [hog, hgs, e2]
  unfold LooseStep
  by_cases hb : b = want
  · rw [if_pos (by simp [Region.wanted, hgd, hy, hb])]
    exact hs hb a.eval w hC hk
  · rw [if_neg (by simp [Region.wanted, hgd, hy, hb])]
    exact hn hb w
theorem load_blk {ev : Operand → Value} {w : World} {ty t : TypeId} {x : Operand} {b n : Nat} {D : Array Value} {pos : String} {dst : Option Tmp} {tt : TypeId} {af : Array Edge} {gd : Option (Nat × Bool)} (hx : ev x = .pointer (some ⟨b, 0, none⟩)) (hr : RowTy P ty n) (hb : Blk w b D t) (hs : D.size = n) : (execOp ev { dst := dst, op := .load ty x, type := tt, pos := pos, after := af, guard := gd }).run P w = .ok (.value (.agg D)) w := by
  obtain ⟨d, hu, hd, hi⟩ := hr
  have hl := run_loadVar_row (P := P) w b t ty D (0, 0) d hb hu (by cases d <;> simp_all) (by rw [hi, hs])
  simp [execOp, hx, Instr.loadAt, Instr.sureAddr, hl]
theorem good_of {ev : Operand → Value} {w w' : World} {v : Value} (hd : o.dst = some d) (hr : (execOp ev o).run P w = .ok (.value v) w') (hC : C w') (hR : R w w') (hF : F w' d v) : Good P C R F o w ((execOp ev o).run P w) := by
  rw [hr]
  exact ⟨hC, hR, fun d' hd' => by rw [hd] at hd'; injection hd' with hd'; subst hd'; exact hF⟩
theorem good_call {ev : Operand → Value} {w : World} {f : FuncId} {args : Array Value} (hd : o.dst = some d) (hr : (execOp ev o).run P w = .ok (.enter f args) w) (hc : Calls P f args w fun e w'' => ∃ v, e = .returned v ∧ C w'' ∧ R w w'' ∧ F w'' d v) : Good P C R F o w ((execOp ev o).run P w) := by
  rw [hr]
  exact hc.mono fun e w'' ⟨v, he, h1, h2, h3⟩ => ⟨v, he, h1, h2, fun d' hd' => by rw [hd] at hd'; injection hd' with hd'; subst hd'; exact h3⟩
end
end
end Go.Proofs.YtdnnjahdcabdmaaGreatDoor
/- Two grounds whose numbers are alike are told equal. -/
namespace Go.Proofs.YtdnnjahdcabdmaaGreatDoor
open Go.ChangeShapes Go.WideShapes Go.ChangeAt Go.RowKit
set_option linter.unusedVariables false
set_option linter.unusedSimpArgs false
attribute [local irreducible] Calls

/-- Two grounds whose numbers are alike. -/
structure GrEq (g g' : Gr) : Prop where
  wide : g.wide = g'.wide
  high : g.high = g'.high
  fix : g.fix = g'.fix
  con : ∀ k, k < 64 → cn (g.con k) = cn (g'.con k)
  gai : ∀ k, k < 64 → cn (g.gai k) = cn (g'.gai k)
  hea : ∀ k, k < 64 → cn (g.hea k) = cn (g'.hea k)
theorem GrEq.refl (g : Gr) : GrEq g g := ⟨rfl, rfl, rfl, fun _ _ => rfl, fun _ _ => rfl, fun _ _ => rfl⟩

end Go.Proofs.YtdnnjahdcabdmaaGreatDoor
