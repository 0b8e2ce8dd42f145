import Derived.Test.YtglimhkpndfjgaaMT14
import Derived.Test.YtglimhkpndfjgaaMT23
import Derived.Test.YtglimhkpndfjgaaMT20
import Derived.Test.YtglimhkpndfjgaaMT17
/- A region that draws its order, some of whose first operations are calls that change what holds of the memory: what holds goes by how many of them are done. A plain law; no statement is proved here. -/
namespace Go.Proofs.Ytglimhkpndfjgaa
open Go.ChangeShapes Go.WideShapes Go.ChangeAt Go.RowKit
set_option linter.unusedVariables false
set_option linter.unusedSimpArgs false

/-- How many of the named operations are done. -/
def cntL (ps : List Nat) (listed : Array Bool) : Nat := (ps.filter fun i => listed.getD i false).length
theorem cntL_ne {ps : List Nat} {listed : Array Bool} {i : Nat} (h : i ∉ ps) : cntL ps (listed.setIfInBounds i true) = cntL ps listed := by
  unfold cntL
  rw [List.filter_congr fun j hj => getD_set_ne false (fun e => h (by rw [e]; exact hj))]
theorem cntL_set : ∀ {ps : List Nat} {listed : Array Bool} {i : Nat}, ps.Nodup → i ∈ ps → i < listed.size → listed.getD i false = false → cntL ps (listed.setIfInBounds i true) = cntL ps listed + 1
  | [], _, _, _, h, _, _ => absurd h List.not_mem_nil
  | p :: ps, listed, i, hn, h, hs, hf => by
    obtain ⟨h1, h2⟩ := List.nodup_cons.1 hn
    by_cases hip : i = p
    · subst hip
      have e := cntL_ne (listed := listed) h1
      unfold cntL at e ⊢
      have e1 : (listed.setIfInBounds i true).getD i false = true := by simp [hs]
      rw [List.filter_cons_of_pos (by simpa using e1), List.filter_cons_of_neg (by rw [hf]; simp), List.length_cons, e]
    · have hi : i ∈ ps := by rcases List.mem_cons.1 h with h | h; exact absurd h hip; exact h
      have ih := cntL_set h2 hi hs hf
      unfold cntL at ih ⊢
      have e1 : (listed.setIfInBounds i true).getD p false = listed.getD p false := getD_set_ne false hip
      cases hp : listed.getD p false
      · rw [List.filter_cons_of_neg (by rw [e1, hp]; simp), List.filter_cons_of_neg (by rw [hp]; simp)]; exact ih
      · rw [List.filter_cons_of_pos (by rw [e1, hp]), List.filter_cons_of_pos (by rw [hp]), List.length_cons, List.length_cons, ih]
theorem cntL_lt : ∀ {ps : List Nat} {listed : Array Bool} {i : Nat}, i ∈ ps → listed.getD i false = false → cntL ps listed < ps.length
  | [], _, _, h, _ => absurd h List.not_mem_nil
  | p :: ps, listed, i, h, hf => by
    have hle : cntL ps listed ≤ ps.length := List.length_filter_le _ _
    rcases List.mem_cons.1 h with h | h
    · subst h
      unfold cntL at hle ⊢
      rw [List.filter_cons_of_neg (by rw [hf]; simp), List.length_cons]; omega
    · have ih := cntL_lt h hf
      unfold cntL at ih ⊢
      rw [List.length_cons]
      cases hp : listed.getD p false
      · rw [List.filter_cons_of_neg (by rw [hp]; simp)]; omega
      · rw [List.filter_cons_of_pos (by rw [hp]), List.length_cons]; omega
theorem cntL_all {ps : List Nat} {listed : Array Bool} (h : ∀ i, i ∈ ps → listed.getD i false = true) : cntL ps listed = ps.length := by
  unfold cntL
  rw [List.filter_eq_self.2 fun i hi => h i hi]
theorem cntL_none {ps : List Nat} {n : Nat} : cntL ps (Array.replicate n false) = 0 := by
  unfold cntL
  rw [List.length_eq_zero_iff, List.filter_eq_nil_iff]
  intro i _ hc
  exact rep_false hc
section
variable {P : Program} {L : List Oper} {C : Nat → World → Prop} {R : World → World → Prop} {F : World → Nat → Value → Prop} {s0 : Array Value} {df : List Deferred}
/-- What a named operation must do. -/
def StepTo (P : Program) (l : List Oper) (C C' : World → Prop) (R : World → World → Prop) (F : World → Nat → Value → Prop) (s : List Value) (o : Oper) : Prop :=
  ∀ (a : Act) (w : World), C w → (∀ t ∈ o.looksAt l.toArray, Gs l F s.toArray w t (a.tmps.getD t undef)) → Region.wanted o (yielded l.toArray a.tmps) = true ∧ Good P C' R F o w ((execOp a.eval o).run P w)
/-- What each of the first k must do. -/
def StepAt (P : Program) (l : List Oper) (C : Nat → World → Prop) (R : World → World → Prop) (F : World → Nat → Value → Prop) (s : List Value) (ps : List Nat) (i : Nat) (o : Oper) : Prop :=
  if ps.contains i then ∀ n, n < ps.length → StepTo P l (C n) (C (n + 1)) R F s o else ∀ n, n ≤ ps.length → StepOk P l (C n) R F s o
def StepsAt (p : Nat → Oper → Prop) : Nat → Nat → List Oper → Prop
  | _, 0, _ => True
  | _, _ + 1, [] => True
  | i, k + 1, x :: r => p i x ∧ StepsAt p (i + 1) k r
theorem StepsAt.get {p : Nat → Oper → Prop} : ∀ {j k : Nat} {l : List Oper} {i : Nat} {o : Oper}, StepsAt p j k l → i < k → l[i]? = some o → p (j + i) o
  | _, 0, _, _, _, _, hi, _ => by omega
  | _, k + 1, [], i, o, _, _, h => by simp at h
  | j, k + 1, x :: r, 0, o, h, _, ho => by simp at ho; subst ho; exact h.1
  | j, k + 1, x :: r, i + 1, o, h, hi, ho => by
    simp at ho
    have := StepsAt.get (k := k) h.2 (by omega) ho
    rwa [show j + 1 + i = j + (i + 1) by omega] at this
theorem phase_wpAny {k : Nat} {ps : List Nat} {s : List Value} (hs0 : s0 = s.toArray) (hps : ps.Nodup) (hpk : ∀ i, i ∈ ps → i < k) (hB : splitB L k = true) (hd0 : ∀ d ∈ dstsOf (L.take k), d < s0.size) {Q : Exit → Act → World → Prop} (hmono : ∀ w w' d v, R w w' → F w d v → F w' d v)
    (hstep : ∀ (i : Nat) (o : Oper), i < k → L[i]? = some o → StepAt P (L.take k) C R F s ps i o)
    (hend : ∀ (a : Act) (w : World), C ps.length w → a.defers = df → a.tmps.size = s0.size → (∀ s, s ∉ dstsOf (L.take k) → a.tmps.getD s undef = s0.getD s undef) → (∀ d ∈ dstsOf (L.take k), F w d (a.tmps.getD d undef)) → wpList P L.toArray Q (L.drop k) a w) :
    ∀ (fuel : Nat) (listed : Array Bool) (a : Act) (w : World), unl listed L.length ≤ fuel → (∀ i, k ≤ i → i < L.length → listed.getD i true = false) → listed.size = L.length → Closed L listed → KInv (L.take k) (C (cntL ps listed)) F s0 df listed a w → wpAny P .any L.toArray Q fuel listed a w := by
  obtain ⟨hL, hk, hedge, hwait⟩ := splitB_spec hB
  have behind : ∀ (listed : Array Bool) (w : World), (∀ i, i ∈ ps → listed.getD i false = true) → C (cntL ps listed) w → C ps.length w := fun listed w h1 h2 => by rwa [cntL_all h1] at h2
  obtain ⟨hn, hspec⟩ := loose_spec hL
  have unl_split : ∀ (listed : Array Bool) (m : Nat), m ≤ L.length → (∀ i, m ≤ i → i < L.length → listed.getD i true = false) → L.length - m ≤ unl listed L.length := by
    intro listed m hm h
    have : ∀ j, m ≤ j → j ≤ L.length → j - m ≤ unl listed j := by
      intro j
      induction j with
      | zero => intro _ _; omega
      | succ j ih =>
        intro h1 h2
        by_cases hj : m = j + 1
        · omega
        · have := ih (by omega) (by omega)
          simp only [unl]
          rw [h j (by omega) (by omega)]
          simp; omega
    exact this L.length hm (Nat.le_refl _)
  intro fuel
  induction fuel with
  | zero =>
    intro listed a w hu hun hls hcl hI
    have h0 : unl listed L.length = 0 := by omega
    have hkl : k = L.length := by
      have := unl_split listed k hk hun
      omega
    refine seq_wpAny hB 0 k listed a w (Nat.le_refl _) hk (by omega) hls (fun i hi => getD_true (by rw [hls]; omega) (unl_zero h0 i (by omega))) hun (hend a w (behind listed w (fun q hq => getD_true (by rw [hls]; have := hpk q hq; omega) (unl_zero h0 q (by have := hpk q hq; omega))) hI.cls) hI.dfs hI.size hI.rest fun d hd => ?_)
    unfold dstsOf at hd
    obtain ⟨o2, ho2, hod⟩ := List.mem_filterMap.1 hd
    obtain ⟨j, hj⟩ := List.getElem?_of_mem ho2
    have hjk : j < k := by
      rcases Nat.lt_or_ge j k with h' | h'
      · exact h'
      · rw [List.getElem?_take, if_neg (by omega)] at hj; cases hj
    exact hI.done j o2 d hj (getD_true (by rw [hls]; omega) (unl_zero h0 j (by omega))) hod
  | succ fuel ih =>
    intro listed a w hu hun hls hcl hI
    by_cases hall : ∀ i, i < k → listed.getD i false = true
    · refine seq_wpAny hB (fuel + 1) k listed a w (Nat.le_refl _) hk (Nat.le_trans (unl_split listed k hk hun) hu) hls hall hun (hend a w (behind listed w (fun q hq => hall q (hpk q hq)) hI.cls) hI.dfs hI.size hI.rest fun d hd => ?_)
      unfold dstsOf at hd
      obtain ⟨o2, ho2, hod⟩ := List.mem_filterMap.1 hd
      obtain ⟨j, hj⟩ := List.getElem?_of_mem ho2
      have hjk : j < k := by
        rcases Nat.lt_or_ge j k with h' | h'
        · exact h'
        · rw [List.getElem?_take, if_neg (by omega)] at hj; cases hj
      exact hI.done j o2 d hj (hall j hjk) hod
    · have noneReady : Region.ready .any L.toArray listed = [] → False := by
        intro hr
        apply hall
        have : ∀ j, j ≤ k → ∀ i, i < j → listed.getD i false = true := by
          intro j
          induction j with
          | zero => intro _ i hi; omega
          | succ j ih2 =>
            intro hj i hi
            by_cases hij : i < j
            · exact ih2 (by omega) i hij
            · obtain rfl : i = j := by omega
              have hil : i < L.length := by omega
              cases hb : listed.getD i true with
              | true => exact getD_true (by rw [hls]; exact hil) hb
              | false =>
                exfalso
                have hmem : i ∈ Region.ready .any L.toArray listed := mem_ready.2 ⟨hb, L[i], by simp only [List.getElem?_toArray]; exact List.getElem?_eq_getElem hil, fun e he hbd => ih2 (by omega) _ ((hedge i L[i] (List.getElem?_eq_getElem hil)).1 e he hbd)⟩
                rw [hr] at hmem; cases hmem
        exact fun i hi => this k (Nat.le_refl _) i hi
      refine ⟨fun hr => (noneReady hr).elim, fun i hi => ?_⟩
      obtain ⟨hunI, o, ho, hallE⟩ := mem_ready.1 hi
      have ho' : L[i]? = some o := by simpa only [List.getElem?_toArray] using ho
      have hil : i < L.length := by
        rcases Nat.lt_or_ge i L.length with h' | h'
        · exact h'
        · rw [List.getElem?_eq_none h'] at ho'; cases ho'
      have hik : i < k := by
        rcases Nat.lt_or_ge i k with h' | h'
        · exact h'
        · exfalso
          by_cases hie : i = k
          · subst hie
            apply hall
            have : ∀ q j, i - q ≤ j → j < i → listed.getD j false = true := by
              intro q
              induction q with
              | zero => intro j h1 h2; omega
              | succ q ihq =>
                intro j h1 h2
                obtain ⟨i2, o2, hlt, hle, hi2, e, he, hej, hbd⟩ := hwait j (by omega)
                by_cases hi2e : i2 = i
                · subst hi2e
                  rw [ho'] at hi2; injection hi2 with hi2; subst hi2
                  have := hallE e he hbd
                  rw [hej] at this; exact this
                · have hli2 := ihq i2 (by omega) (by omega)
                  have := hcl i2 o2 hi2 hli2 e he hbd
                  rw [hej] at this; exact this
            exact fun j hj => this i j (by omega) hj
          · obtain ⟨i2, o2, hlt, hle, hi2, e, he, hej, hbd⟩ := hwait (i - 1) (by omega)
            have : i2 = i := by omega
            subst this
            rw [ho'] at hi2; injection hi2 with hi2; subst hi2
            have h3 := hallE e he hbd
            rw [hej] at h3
            have h4 := getD_ft (by rw [hls]; omega) (hun (i2 - 1) (by omega) (by omega))
            rw [h3] at h4; cases h4
      have hcnt := unl_set listed i hunI L.length
      rw [if_pos hil] at hcnt
      have hcl' : Closed L (listed.setIfInBounds i true) := by
        intro j o2 hj hlj e he hbd
        have keep : ∀ q, listed.getD q false = true → (listed.setIfInBounds i true).getD q false = true := by
          intro q hq
          by_cases hiq : i = q
          · subst hiq
            have hlt : i < listed.size := by rw [hls]; exact hil
            simp [hlt]
          · rw [getD_set_ne false hiq]; exact hq
        by_cases hij : i = j
        · subst hij
          rw [ho'] at hj; injection hj with hj; subst hj
          exact keep _ (hallE e he hbd)
        · rw [getD_set_ne false hij] at hlj
          exact keep _ (hcl j o2 hj hlj e he hbd)
      have hoT : (L.take k)[i]? = some o := by rw [List.getElem?_take, if_pos hik]; exact ho'
      have hlook : ∀ s ∈ o.looksAt (L.take k).toArray, Gs (L.take k) F s0 w s (a.tmps.getD s undef) := by
        intro s hs
        unfold Gs
        split
        · rename_i hsd
          unfold dstsOf at hsd
          obtain ⟨o2, ho2, hod⟩ := List.mem_filterMap.1 hsd
          obtain ⟨j, hj⟩ := List.getElem?_of_mem ho2
          obtain ⟨e, he, h3, h4⟩ := (hspec i o hoT).2 s hs j o2 hj hod
          have := hallE e he h4
          rw [h3] at this
          exact hI.done j o2 s hj this hod
        · rename_i hsd
          exact hI.rest s hsd
      have hst0 := hstep i o hik ho'
      have hun' : ∀ j, k ≤ j → j < L.length → (listed.setIfInBounds i true).getD j true = false := fun j h1 h2 => by rw [getD_set_ne true (by omega)]; exact hun j h1 h2
      have next : ∀ v w', C (cntL ps (listed.setIfInBounds i true)) w' → (∀ d v, F w d v → F w' d v) → (∀ d, o.dst = some d → F w' d v) → wpAny P .any L.toArray Q fuel (listed.setIfInBounds i true) (a.put o.dst v) w' := fun v w' hC hm hv => by
        refine ih _ _ _ (by omega) hun' (by simpa using hls) hcl' ?_
        have h1 := hI.put (C := C (cntL ps listed)) hm hn hd0 hoT hunI (w' := w') (v := v)
        by_cases hq : C (cntL ps listed) w'
        · have h2 := h1 hq hv
          exact ⟨hC, h2.dfs, h2.size, h2.rest, h2.done⟩
        · have h2 := (⟨trivial, hI.dfs, hI.size, hI.rest, hI.done⟩ : KInv (L.take k) (fun _ => True) F s0 df listed a w).put hm hn hd0 hoT hunI (w' := w') (v := v) trivial hv
          exact ⟨hC, h2.dfs, h2.size, h2.rest, h2.done⟩
      have hcls := hI.cls
      obtain ⟨C', hC', hCw, hst⟩ : ∃ C' : World → Prop, (∀ w', C' w' → C (cntL ps (listed.setIfInBounds i true)) w') ∧ (Region.wanted o (yielded (L.take k).toArray a.tmps) = false → C' w) ∧ LooseStep P (L.take k) C' R F o a w := by
        unfold StepAt at hst0
        by_cases hip : i ∈ ps
        · have hpf : listed.getD i false = false := getD_ft (by rw [hls]; exact hil) hunI
          rw [if_pos (by simpa using hip)] at hst0
          obtain ⟨hwt, hgo⟩ := hst0 (cntL ps listed) (cntL_lt hip hpf) a w hcls (hs0 ▸ hlook)
          refine ⟨C (cntL ps listed + 1), fun w' h => ?_, (fun h => by rw [hwt] at h; cases h), ?_⟩
          · rw [cntL_set hps hip (by rw [hls]; exact hil) hpf]; exact h
          · unfold LooseStep
            rw [if_pos hwt]
            exact hgo
        · rw [if_neg (by simpa using hip)] at hst0
          exact ⟨C (cntL ps listed), fun w' h => by rw [cntL_ne hip]; exact h, fun _ => hcls, hst0 _ (List.length_filter_le _ _) a w hcls (hs0 ▸ hlook)⟩
      unfold wpOp
      rw [ho]
      show if Region.wanted o (yielded L.toArray a.tmps) = true then _ else _
      rw [wanted_take (k := k) a.tmps ((hedge i o ho').2 hik)]
      unfold LooseStep at hst
      split
      · rename_i hw
        rw [if_pos hw] at hst
        refine .inl ?_
        unfold Oper.wp
        generalize (execOp a.eval o).run P w = r at hst
        cases r with
        | ok n w' =>
          cases n <;> simp only [Oper.upon, Good] at hst ⊢
          case value v => exact next v w' (hC' _ hst.1) (fun d u => hmono _ _ d u hst.2.1) hst.2.2
          case skip => exact next undef w' (hC' _ hst.1) (fun d u => hmono _ _ d u hst.2.1) hst.2.2
          case enter f args => exact hst.mono fun e w'' ⟨v, he, hC, hR, hv⟩ => by subst he; exact next v w'' (hC' _ hC) (fun d u => hmono _ _ d u hR) hv
        | halt x w' => exact hst.elim
      · rename_i hw
        rw [if_neg hw] at hst
        exact next undef w (hC' _ (hCw (by simpa using hw))) (fun _ _ h => h) hst

/-- ONE WALK SERVES EVERY ORDER; what is left behind the first k comes in its order. -/
theorem wp_phaseK {s : List Value} {id : Nat} {Q : Exit → Act → World → Prop} {w : World} (k : Nat) (ps : List Nat) (C : Nat → World → Prop) (R : World → World → Prop) (F : World → Nat → Value → Prop) (hmono : ∀ w w' d v, R w w' → F w d v → F w' d v) (hm : P.follows .mixedOrders = true) (hB : splitB L k = true) (hps : ps.Nodup ∧ ∀ i ∈ ps, i < k) (hd0 : (dstsOf (L.take k)).all (fun d => decide (d < s.length)) = true) (hC : C 0 w.drew)
    (hstep : StepsAt (StepAt P (L.take k) C R F s ps) 0 k L)
    (h : ∀ (x : Nat → Value) (w' : World), (∀ d, d ∈ dstsOf (L.take k) → F w' d (x d)) → C ps.length w' → wpList P L.toArray Q (L.drop k) ⟨(fill s (dstsOf (L.take k)) x).toArray, df⟩ w') : (Code.region id L.toArray true).wp P Q ⟨s.toArray, df⟩ w := by
  have hd0' : ∀ d ∈ dstsOf (L.take k), d < s.toArray.size := fun d hd => by
    have := List.all_eq_true.1 hd0 d hd
    simpa using this
  refine wp_region_any hm ?_
  refine phase_wpAny (P := P) (C := C) (R := R) (F := F) (s0 := s.toArray) (df := df) rfl hps.1 hps.2 hB hd0' hmono (fun i o hik hi => by have := hstep.get hik hi; rwa [Nat.zero_add] at this) (fun a w' hC hdf hsz hrest hF => ?_) _ _ _ _ ?_ (fun i _ hi => ?_) (by simp) (fun i o _ hl => ?_) ⟨by rw [cntL_none]; exact hC, rfl, rfl, fun _ _ => rfl, fun j o d _ hl => ?_⟩
  · have e : a = ⟨(fill s (dstsOf (L.take k)) fun d => a.tmps.getD d undef).toArray, df⟩ := by
      obtain ⟨t, dd⟩ := a
      simp only at hdf hsz hrest hF ⊢
      subst hdf
      congr 1
      have hsz' : t.toList.length = s.length := by simpa using hsz
      have hl : t.toList = fill s (dstsOf (L.take k)) fun d => t.getD d undef := by
        apply List.ext_getElem?
        intro i
        by_cases hi : i < s.length
        · rw [fill_get _ _ _ i hi]
          have ht : i < t.size := by rw [hsz]; simpa using hi
          have hg : t.getD i undef = t[i] := by simp [ht]
          by_cases hm : i ∈ dstsOf (L.take k)
          · rw [if_pos hm, hg]; simp [ht]
          · rw [if_neg hm]
            have := hrest i hm
            rw [hg] at this
            simp [ht, this, hi]
        · rw [List.getElem?_eq_none (by omega), List.getElem?_eq_none (by rw [fill_length]; omega)]
      rw [← hl]
    have h1 := h (fun d => a.tmps.getD d undef) w' hF hC
    rw [← e] at h1
    exact h1
  · have hle : ∀ (b : Array Bool) k, unl b k ≤ k := by
      intro b k
      induction k with
      | zero => simp [unl]
      | succ k ih => simp only [unl]; split <;> omega
    exact Nat.le_trans (hle _ _) (by simp)
  · simp [Array.getElem?_replicate, hi]
  · exact (rep_false hl).elim
  · exact (rep_false hl).elim
theorem step_at {l : List Oper} {s : List Value} {ps : List Nat} {i : Nat} {o : Oper} (hi : ps.contains i = false) (h : ∀ n, n ≤ ps.length → StepOk P l (C n) R F s o) : StepAt P l C R F s ps i o := by
  unfold StepAt; rw [hi]; exact h
theorem step_call {l : List Oper} {s : List Value} {ps : List Nat} {i : Nat} {o : Oper} (hi : ps.contains i = true) (h : ∀ n, n < ps.length → StepTo P l (C n) (C (n + 1)) R F s o) : StepAt P l C R F s ps i o := by
  unfold StepAt; rw [hi]; exact h
theorem step_to {l : List Oper} {C1 C2 : World → Prop} {s : List Value} {o : Oper} (hg : o.guard = none) (h : ∀ (ev : Operand → Value) (w : World), C1 w → Known l F s o w ev → Good P C2 R F o w ((execOp ev o).run P w)) : StepTo P l C1 C2 R F s o :=
  fun a w hC hG => ⟨by simp [Region.wanted, hg], h a.eval w hC ⟨hG, fun _ => rfl, fun _ => rfl⟩⟩
end
end Go.Proofs.Ytglimhkpndfjgaa
/- Draws of the sixth week: readings of which some have another level. -/
namespace Go.Proofs.Ytglimhkpndfjgaa
open Go.ChangeShapes Go.WideShapes Go.ChangeAt Go.RowKit
set_option linter.unusedVariables false
set_option linter.unusedSimpArgs false
attribute [local irreducible] Calls
set_option maxRecDepth 100000 in
set_option maxHeartbeats 400000 in
theorem l00Min_any (a b : Int) (w : World) :
    Calls Try.prog 34 #[.int .i64 a, .int .i64 b] w fun e w' => e = .returned (.int .i64 (if a < b then a else b)) ∧ w' = w := by
  by_cases h : a < b
  · rw [if_pos h]
    go_enter Try.func34, Try.ntmps34
    go_wp2_with fail
    go_ret
    exact ⟨rfl, rfl⟩
  · rw [if_neg h]
    go_enter Try.func34, Try.ntmps34
    go_wp2_with fail
    go_ret
    exact ⟨rfl, rfl⟩
/-- 'append(s, x...)', x being a list in memory. -/
theorem wpList_appO {P : Program} {ops : Array Oper} {rest : List Oper} {o : Oper} {a : Act} {Q : Exit → Act → World → Prop} {w : World} {t e : TypeId} {s bytes : Nat} {sl x : Operand} {v : Value} {g n b m c : Nat} {xs news : List Value} (hE : ElemTy P t e s bytes) (hgd : o.guard = none) (ho : o.op = .call { callee := .builtin .append, args := #[sl, x], argTypes := #[t, t] }) (hv : a.eval sl = v) (hx : a.eval x = .slice (some ⟨b, 0, none⟩) m c)
    (hs : 0 < s) (hown : Own w g e s v n xs) (hb : ∀ i u, news[i]? = some u → w.cell? ⟨b, i, none⟩ = some u) (hl : news.length = m * s) (h1 : ∀ u ∈ news, u.oneCell' = true) (h63 : n + m ≤ maxLen) (hbytes : (n + m) * bytes ≤ 140737488355328)
    (h : ∀ v' w' g', Own w' g' e s v' (n + m) (xs ++ news) → w.grownBy w' (some g) → (g' = g ∨ g' = w.heap.size) → wpList P ops Q rest (a.put o.dst v') w') : wpList P ops Q (o :: rest) a w :=
  wpList_plain hgd fun K hK => by
    obtain ⟨v', w', g', hr, h2, h3, h4⟩ := run_app (P := P) (ty := o.type) hE hs hown (ad := ⟨b, 0, none⟩) (m := m) (c := c) (news := news) hl (fun j u hu => by
      have hadd : (⟨b, 0, none⟩ : Addr).add j = ⟨b, j, none⟩ := by unfold Addr.add; split <;> simp_all
      rw [hadd]; exact hb j u hu) h1 h63 hbytes
    unfold Oper.wp execOp
    simp only [ho, resolve, invoke, builtin, Sem.run_bind, Sem.run_pure, Result.andThen_ok, List.map_toArray, List.map_cons, List.map_nil, hv, hx, hr]
    exact hK _ _ (h v' w' g' h2 h3 h4)
/-- The same readings but for one level. -/
def bentAt (Q : Nat → Rg) (k : Nat) (l : Int) : Nat → Rg := fun i => if i = k then ⟨(Q k).tim, l⟩ else Q i
theorem rgs_bent (n : Nat) (Q : Nat → Rg) (k : Nat) (l : Int) (hk : k < n) : (rgs n Q).set (k * 2 + 1) (.int .i16 l) = rgs n (bentAt Q k l) := by
  apply List.ext_getElem?
  intro j
  by_cases hj : j < n * 2
  · obtain ⟨i, c, hi, hc, rfl⟩ : ∃ i c, i < n ∧ c < 2 ∧ j = i * 2 + c := ⟨j / 2, j % 2, by omega, by omega, by omega⟩
    rw [rgs_get n _ i c hi hc]
    by_cases e : k * 2 + 1 = i * 2 + c
    · have hik : i = k := by omega
      have hc1 : c = 1 := by omega
      subst hik; subst hc1
      rw [List.getElem?_set_self (by rw [rgs_length]; omega)]
      unfold bentAt
      rw [if_pos rfl, Rg.get1]
    · rw [List.getElem?_set_ne e, rgs_get n Q i c hi hc]
      unfold bentAt
      by_cases hik : i = k
      · have hc0 : c = 0 := by omega
        subst hik; subst hc0
        rw [if_pos rfl, Rg.get0, Rg.get0]
      · rw [if_neg hik]
  · rw [List.getElem?_eq_none (by rw [List.length_set, rgs_length]; omega), List.getElem?_eq_none (by rw [rgs_length]; omega)]
/-- What P6Bent gives: the same times, some other levels. -/
def GaveN (w : World) (n : Nat) (R : Nat → Rg) (e : Ending) (w' : World) : Prop := ∃ (x : Value) (g : Nat) (Q : Nat → Rg), (∀ i, i < n → (Q i).tim = (R i).tim ∧ -32768 ≤ (Q i).lev ∧ (Q i).lev ≤ 32767) ∧ e = .returned x ∧ w.heap.size ≤ g ∧ Own w' g 67 2 x n (rgs n Q) ∧ Below w.heap.size w w'
theorem szI16N : (Try.prog.info? 63).map (·.size) = some 1 := by kernel_rfl
/-- A store into a list's cell. -/
theorem wpList_store_own {P : Program} {ops : Array Oper} {rest : List Oper} {o : Oper} {a : Act} {Q : Exit → Act → World → Prop} {w : World} {ty e : TypeId} {x y : Operand} {b f s n : Nat} {v u : Value} {xs : List Value} (hgd : o.guard = none) (ho : o.op = .store ty x y) (hx : a.eval x = .pointer (some ⟨b, f, none⟩)) (hy : a.eval y = v) (hi : (P.info? ty).map (·.size) = some 1) (hv : v.cells = #[v]) (h1 : v.oneCell' = true) (hb : Own w b e s u n xs) (hf : f < n * s)
    (h : ∀ W, Own W b e s u n (xs.set f v) → w.grownBy W (some b) → wpList P ops Q rest (a.put o.dst undef) W) : wpList P ops Q (o :: rest) a w := by
  obtain ⟨hl, cap, cur, hu, hB, hnc, hcm, hcs, htk⟩ := id hb
  refine wpList_store_abs (v := v) hgd ho hx hy hi hv h1 hB (by rw [hcs]; exact Nat.lt_of_lt_of_le hf (Nat.mul_le_mul_right _ hnc)) ?_
  intro W hBW hgr
  refine h W ⟨by simpa using hl, cap, _, hu, hBW, hnc, hcm, by simpa using hcs, ?_⟩ hgr
  rw [← htk]
  rw [Array.toList_setIfInBounds, List.take_set]
set_option maxRecDepth 100000 in
set_option maxHeartbeats 2000000 in
theorem p6Bent_any (v : Value) (nb : Nat) (u : Value) (gu n : Nat) (R : Nat → Rg) (hn : n ≤ 8) (hR : ∀ i, i < n → -32768 ≤ (R i).lev ∧ (R i).lev ≤ 32767) (w : World) (hv : Bytes w w.heap.size v nb) (hu : Own w gu 67 2 u n (rgs n R)) :
    Calls Try.prog 9 #[v, u] w (GaveN w n R) := by
  have hs := src_new hv
  have hfr := l00From_any v nb w hv
  have hbs := below1 w (.cells #[v, .int .i64 0, .int .u64 0] 90)
  have hu1 := hu.alloc (.cells #[v, .int .i64 0, .int .u64 0] 90)
  have lu := hu.lt
  generalize w.alloc (.cells #[v, .int .i64 0, .int .u64 0] 90) = W1 at *
  obtain ⟨b, hb⟩ : ∃ b, w.heap.size = b := ⟨_, rfl⟩
  rw [hb] at hs hfr lu
  have lb := hs.lt
  obtain ⟨cu, rfl, hcu1, hcu2⟩ := hu1.form
  clear hv hu
  go_enter Try.func9, Try.ntmps9
  go_upto_region 2 with (go_at_call 26; refine hfr.mono ?_; rintro e w1 ⟨rfl, hw⟩; subst hw)
  have hs2 : Src (w1.alloc (.cells #[] 67)) b 0 := hs.move fun r hr => heap_alloc_old w1 _ (by omega)
  have hG : Own (w1.alloc (.cells #[] 67)) w1.heap.size 67 2 (.slice (some ⟨w1.heap.size, 0, none⟩) 0 0) 0 (rgs 0 R) := own_blk (Blk.new _ _ _) rfl (by decide) (by rw [rgs_zero])
  have hu2 := hu1.alloc (.cells #[] 67)
  have hbs2 := hbs.alloc hbs.size (.cells #[] 67)
  have hq0 := hbs2.size
  have hcel : ∀ i y, (rgs n R)[i]? = some y → (w1.alloc (.cells #[] 67)).cell? ⟨gu, i, none⟩ = some y := fun i y hy => by
    have hi : i < n * 2 := by
      rcases Nat.lt_or_ge i (n * 2) with h | h
      · exact h
      · rw [List.getElem?_eq_none (by rw [rgs_length]; exact h)] at hy; cases hy
    rw [hu2.cell i hi]; exact hy
  go_upto_region 3 with (at_builtin; refine wpList_appO elRg rfl rfl rfl rfl (by decide) hG hcel (rgs_length n R) (rgs_one n R) (by unfold maxLen; omega) (by omega) ?_; intro v6 w3 g6 hO hgr hg6)
  rw [Nat.zero_add, rgs_zero, List.nil_append] at hO
  have hs3 : Src w3 b 0 := hs2.move fun r hr => hgr.block r (by simp; omega) (fun e => by injection e; omega)
  have hbs3 : Below w.heap.size w w3 := hbs2.grown hgr (by simp; have := hbs.size; omega) (fun k e => by injection e with e; have := hbs.size; omega)
  have lg6 : b < g6 := by
    rcases hg6 with h | h
    · omega
    · rw [h]; simp; omega
  have hp := fun (n : Int) (j : Nat) (h1 : 1 ≤ n) (h2 : n ≤ 1099511627776) (hj : j < 900000) (w' : World) (hs : Src w' b j) => pick_any b j n (by omega) h1 h2 w' hs
  have ho := fun (n : Int) (j : Nat) (h1 : 1 ≤ n) (h2 : n ≤ 1099511627776) (hj : j < 900000) (w' : World) (hs : Src w' b j) => one_any b j n (by omega) h1 h2 w' hs
  have hmin := fun a b w' => l00Min_any a b w'
  obtain ⟨c6, rfl, hc61, hc62⟩ := hO.form
  unfold maxLen at hc62 hcu2
  clear hs hs2 hgr hg6 hG hu1 hu2 hbs hbs2 hcel hfr
  go_wp2_with fail
  go_loopw [7] (fun i wr => ∃ (k : Nat) (Q : Nat → Rg), k ≤ n ∧ i = .int .i64 k ∧ (∀ i, i < n → (Q i).tim = (R i).tim ∧ -32768 ≤ (Q i).lev ∧ (Q i).lev ≤ 32767) ∧ Own wr g6 67 2 (.slice (some ⟨g6, 0, none⟩) n c6) n (rgs n Q) ∧ Src wr b (4 * k) ∧ Below w.heap.size w wr) (fun i _ => n - (intOf i).toNat)
  case atStart => exact ⟨0, R, by omega, rfl, fun i hi => ⟨rfl, hR i hi⟩, hO, hs3, hbs3⟩
  case round =>
    clear hO hs3 hbs3
    obtain ⟨k, Q, hk, rfl, hQ, hO, hsr, hbs⟩ := hrel
    have bk : (0 : Int) ≤ k := by omega
    have HQ := Lib.hid hQ
    clear hQ
    by_cases hlt : k < n
    · have bl : (k : Int) < n := by omega
      have eb := hbs.size
      have lsr := hsr.lt
      have lG := hO.lt
      go_upto_region 6 with fail
      go_upto_if 20 with (go_at_call 33; refine (ho 3 (4 * k) (by decide) (by decide) (by omega) _ hsr).mono ?_; rintro e w4 ⟨x, rfl, hs4, hg4⟩; clear hsr)
      have hO4 := hO.grown hg4 (fun e => by injection e; omega)
      have hbs4 := hbs.grown hg4 eb (fun k e => by injection e; omega)
      have e4 := hg4.size
      clear hO hbs
      cases x
      · go_wp2_with fail
        go_roundw
        case rel => exact ⟨k + 1, Q, by omega, by go_num, HQ.out, hO4, hs4.mono (by omega), hbs4⟩
        case measure => simp [intOf]; omega
      · go_upto_region 7 with fail
        have hlv := HQ.out k hlt
        obtain ⟨lv, hlv0⟩ : ∃ lv, (Q k).lev = lv := ⟨_, rfl⟩
        rw [hlv0] at hlv
        have cL : ∀ w', w4.grownBy w' (some b) → w'.cell? ⟨g6, k * 2 + 1, none⟩ = some (.int .i16 lv) := fun w' h => by
          rw [(hO4.grown h (fun e => by injection e; omega)).cell (k * 2 + 1) (by omega), rgs_get n Q k 1 hlt (by omega), Rg.get1, hlv0]
        refine wp_phaseK 15 [9] (fun j w' => Src w' b (4 * k + 2 + 2 * j) ∧ w4.grownBy w' (some b)) (fun w w' => w.grownBy w' (some b)) (fun _ d v => match d, v with
          | 21, v => v = .slice (some ⟨g6, 0, none⟩) n c6
          | 22, v => v = .int .i64 k
          | 23, v => v = .slice (some ⟨g6, 0, none⟩) n c6
          | 24, v => v = .int .i64 k
          | 25, v => v = .pointer (some ⟨g6, k * 2, none⟩)
          | 26, v => v = .pointer (some ⟨g6, k * 2 + 1, none⟩)
          | 27, v => v = .int .i16 lv
          | 28, v => v = .int .i64 lv
          | 29, v => v = .pointer (some ⟨b, 0, none⟩)
          | 30, v => ∃ y : Int, v = .int .i64 y ∧ 0 ≤ y ∧ y < 5
          | 31, v => ∃ y : Int, v = .int .i64 y ∧ -32768 ≤ y ∧ y < 32772
          | 32, v => ∃ y : Int, v = .int .i64 y ∧ -32768 ≤ y ∧ y ≤ 32767
          | 33, v => ∃ y : Int, v = .int .i16 y ∧ -32768 ≤ y ∧ y ≤ 32767
          | 34, v => v = .pointer (some ⟨g6, k * 2, none⟩)
          | 35, v => v = .pointer (some ⟨g6, k * 2 + 1, none⟩)
          | _, _ => True) (fun w w' d v h hF => hF) (by kernel_rfl) (by kernel_rfl) ⟨by decide, by decide⟩ (by kernel_rfl) ⟨hs4.move fun _ _ => rfl, grown_drewN _ 1 _⟩ ?_ ?_
        · refine ⟨step_at rfl fun j hj => step_go rfl fun ev w1 hC kn => ?_, ?_⟩
          · have e1 : ev (.tmp 6) = .slice (some ⟨g6, 0, none⟩) n c6 := kn.out 6 rfl rfl rfl
            exact good_of (v := .slice (some ⟨g6, 0, none⟩) n c6) rfl (by simp [execOp, e1, go_sem]) hC (World.grownBy.refl _ _) rfl
          refine ⟨step_at rfl fun j hj => step_go rfl fun ev w1 hC kn => ?_, ?_⟩
          · have e1 : ev (.tmp 7) = .int .i64 k := kn.out 7 rfl rfl rfl
            exact good_of (v := .int .i64 k) rfl (by simp [execOp, e1, go_sem]) hC (World.grownBy.refl _ _) rfl
          refine ⟨step_at rfl fun j hj => step_go rfl fun ev w1 hC kn => ?_, ?_⟩
          · have e1 : ev (.tmp 6) = .slice (some ⟨g6, 0, none⟩) n c6 := kn.out 6 rfl rfl rfl
            exact good_of (v := .slice (some ⟨g6, 0, none⟩) n c6) rfl (by simp [execOp, e1, go_sem]) hC (World.grownBy.refl _ _) rfl
          refine ⟨step_at rfl fun j hj => step_go rfl fun ev w1 hC kn => ?_, ?_⟩
          · have e1 : ev (.tmp 7) = .int .i64 k := kn.out 7 rfl rfl rfl
            exact good_of (v := .int .i64 k) rfl (by simp [execOp, e1, go_sem]) hC (World.grownBy.refl _ _) rfl
          refine ⟨step_at rfl fun j hj => step_go rfl fun ev w1 hC kn => ?_, ?_⟩
          · have e1 : ev (.tmp 23) = .slice (some ⟨g6, 0, none⟩) n c6 := kn.inn 23 rfl rfl
            have e2 : ev (.tmp 24) = .int .i64 k := kn.inn 24 rfl rfl
            exact good_of (v := .pointer (some ⟨g6, k * 2, none⟩)) rfl (by simp [execOp, e1, e2, go_sem, bk, bl]) hC (World.grownBy.refl _ _) rfl
          refine ⟨step_at rfl fun j hj => step_go rfl fun ev w1 hC kn => ?_, ?_⟩
          · have e1 : ev (.tmp 25) = .pointer (some ⟨g6, k * 2, none⟩) := kn.inn 25 rfl rfl
            exact good_of (v := .pointer (some ⟨g6, k * 2 + 1, none⟩)) rfl (by simp only [execOp, e1]; rfl) hC (World.grownBy.refl _ _) rfl
          refine ⟨step_at rfl fun j hj => step_go rfl fun ev w1 hC kn => ?_, ?_⟩
          · have e1 : ev (.tmp 26) = .pointer (some ⟨g6, k * 2 + 1, none⟩) := kn.inn 26 rfl rfl
            have c1 := cL w1 hC.2
            exact good_of (v := .int .i16 lv) rfl (by simp [execOp, e1, go_sem, c1]) hC (World.grownBy.refl _ _) rfl
          refine ⟨step_at rfl fun j hj => step_go rfl fun ev w1 hC kn => ?_, ?_⟩
          · have e1 : ev (.tmp 27) = .int .i16 lv := kn.inn 27 rfl rfl
            have hw8 : IntKind.i64.wrap lv = lv := by rw [IntKind.wrap_i64]; omega
            exact good_of (v := .int .i64 lv) rfl (by simp [execOp, e1, go_sem, hw8]) hC (World.grownBy.refl _ _) rfl
          refine ⟨step_at rfl fun j hj => step_go rfl fun ev w1 hC kn => ?_, ?_⟩
          · have e1 : ev (.tmp 5) = .pointer (some ⟨b, 0, none⟩) := kn.out 5 rfl rfl rfl
            exact good_of (v := .pointer (some ⟨b, 0, none⟩)) rfl (by simp [execOp, e1, go_sem]) hC (World.grownBy.refl _ _) rfl
          refine ⟨step_call rfl fun j hj => step_to rfl fun ev w1 hC kn => ?_, ?_⟩
          · have e1 : ev (.tmp 29) = .pointer (some ⟨b, 0, none⟩) := kn.inn 29 rfl rfl
            have hj2 : j < 1 := hj
            exact good_call (f := 27) (args := #[.pointer (some ⟨b, 0, none⟩), .int .i64 5]) rfl (by simp [execOp, e1, kn.fn, kn.con, go_sem]) ((hp 5 (4 * k + 2 + 2 * j) (by decide) (by decide) (by omega) w1 hC.1).mono fun e w2 ⟨y, ⟨y0, y1⟩, he, h1, h2⟩ => ⟨_, he, ⟨h1, hC.2.trans h2⟩, h2, ⟨y, rfl, y0, y1⟩⟩)
          refine ⟨step_at rfl fun j hj => step_go rfl fun ev w1 hC kn => ?_, ?_⟩
          · have e1 : ev (.tmp 28) = .int .i64 lv := kn.inn 28 rfl rfl
            obtain ⟨y, e2, y0, y1⟩ : ∃ y : Int, ev (.tmp 30) = .int .i64 y ∧ 0 ≤ y ∧ y < 5 := kn.inn 30 rfl rfl
            have hwz : IntKind.i64.wrap (lv + y) = lv + y := by rw [IntKind.wrap_i64]; omega
            exact good_of (v := .int .i64 (lv + y)) rfl (by simp [execOp, e1, e2, go_sem, hwz]) hC (World.grownBy.refl _ _) ⟨_, rfl, by omega, by omega⟩
          refine ⟨step_at rfl fun j hj => step_go rfl fun ev w1 hC kn => ?_, ?_⟩
          · obtain ⟨y, e1, y0, y1⟩ : ∃ y : Int, ev (.tmp 31) = .int .i64 y ∧ -32768 ≤ y ∧ y < 32772 := kn.inn 31 rfl rfl
            exact good_call (f := 34) (args := #[.int .i64 32767, .int .i64 y]) rfl (by simp [execOp, e1, kn.fn, kn.con, go_sem]) ((hmin 32767 y w1).mono fun e w2 ⟨he, hw⟩ => ⟨_, he, by rw [hw]; exact hC, by rw [hw]; exact World.grownBy.refl _ _, ⟨_, rfl, by split <;> omega, by split <;> omega⟩⟩)
          refine ⟨step_at rfl fun j hj => step_go rfl fun ev w1 hC kn => ?_, ?_⟩
          · obtain ⟨y, e1, y0, y1⟩ : ∃ y : Int, ev (.tmp 32) = .int .i64 y ∧ -32768 ≤ y ∧ y ≤ 32767 := kn.inn 32 rfl rfl
            have hwz : IntKind.i16.wrap y = y := by unfold IntKind.wrap; simp [IntKind.bits, IntKind.signed]; omega
            exact good_of (v := .int .i16 y) rfl (by simp [execOp, e1, go_sem, hwz]) hC (World.grownBy.refl _ _) ⟨y, rfl, y0, y1⟩
          refine ⟨step_at rfl fun j hj => step_go rfl fun ev w1 hC kn => ?_, ?_⟩
          · have e1 : ev (.tmp 21) = .slice (some ⟨g6, 0, none⟩) n c6 := kn.inn 21 rfl rfl
            have e2 : ev (.tmp 22) = .int .i64 k := kn.inn 22 rfl rfl
            exact good_of (v := .pointer (some ⟨g6, k * 2, none⟩)) rfl (by simp [execOp, e1, e2, go_sem, bk, bl]) hC (World.grownBy.refl _ _) rfl
          refine ⟨step_at rfl fun j hj => step_go rfl fun ev w1 hC kn => ?_, ?_⟩
          · have e1 : ev (.tmp 34) = .pointer (some ⟨g6, k * 2, none⟩) := kn.inn 34 rfl rfl
            exact good_of (v := .pointer (some ⟨g6, k * 2 + 1, none⟩)) rfl (by simp only [execOp, e1]; rfl) hC (World.grownBy.refl _ _) rfl
          exact trivial
        · rintro xv w5 hxv ⟨hs5, hg5⟩
          replace hs5 : Src w5 b (4 * k + 2 + 2 * 1) := hs5
          obtain ⟨y, y33, y0, y1⟩ : ∃ y : Int, xv 33 = .int .i16 y ∧ -32768 ≤ y ∧ y ≤ 32767 := hxv 33 (by decide)
          have y35 : xv 35 = .pointer (some ⟨g6, k * 2 + 1, none⟩) := hxv 35 (by decide)
          simp only [fill, dstsOf, List.filterMap_cons, List.filterMap_nil, List.foldl_cons, List.foldl_nil, List.set_cons_succ, List.set_cons_zero, List.take_succ_cons, List.take_zero, List.drop_succ_cons, List.drop_zero, y33, y35]
          have hO5 := hO4.grown hg5 (fun e => by injection e; omega)
          have hbs5 := hbs4.grown hg5 (by omega) (fun k e => by injection e; omega)
          have e5 := hg5.size
          clear hxv y33 y35 hO4 hbs4 cL
          go_wp2_with (refine wpList_store_own (v := .int .i16 y) rfl rfl rfl rfl szI16N rfl rfl hO5 (by omega) ?_; intro W6 hO6 hg6)
          rw [rgs_bent n Q k y hlt] at hO6
          have l5 := hs5.lt
          go_roundw
          case rel =>
            refine ⟨k + 1, bentAt Q k y, by omega, by go_num, fun i hi => ?_, hO6, ?_, ?_⟩
            · unfold bentAt
              by_cases hik : i = k
              · rw [if_pos hik, hik]; exact ⟨(HQ.out k hlt).1, y0, y1⟩
              · rw [if_neg hik]; exact HQ.out i hi
            · exact (hs5.move fun r hr => hg6.block r (by omega) (fun e => by injection e; omega)).mono (by omega)
            · exact hbs5.grown hg6 (by omega) (fun k e => by injection e; omega)
          case measure => simp [intOf]; omega
    · obtain rfl : k = n := by omega
      go_wp2_with fail
      go_ret
      exact ⟨_, g6, Q, HQ.out, rfl, by omega, hO, hbs⟩
end Go.Proofs.Ytglimhkpndfjgaa
/- ReadReadings, in the program: the walk, continued. -/
namespace Go.Proofs.Ytglimhkpndfjgaa
open Go.ChangeShapes Go.WideShapes Go.ChangeAt Go.RowKit
set_option linter.unusedVariables false
set_option linter.unusedSimpArgs false
attribute [local irreducible] Calls

/-- The words of row j lie in memory. -/
def RowAtG (W : World) (g j : Nat) (ws : List (List UInt8)) : Prop :=
  ∃ b cap, W.cell? ⟨g, j, none⟩ = some (.slice (some ⟨b, 0, none⟩) 2 cap) ∧ 2 ≤ cap ∧ b < W.heap.size ∧ W.cell? ⟨b, 0, none⟩ = some (.string ⟨(ws.getD 0 []).toArray⟩) ∧ W.cell? ⟨b, 1, none⟩ = some (.string ⟨(ws.getD 1 []).toArray⟩)
end Go.Proofs.Ytglimhkpndfjgaa
