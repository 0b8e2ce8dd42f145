import Derived.Test.YtdnnjahdcabdmaaGreatDoorMD18
import Derived.Test.YtdnnjahdcabdmaaGreatDoorMD25
/- A region that draws its order, some of whose first operations are calls that change what holds of the memory: what holds goes by how many of them are done. A plain law; no statement is proved here. -/
namespace Go.Proofs.YtdnnjahdcabdmaaGreatDoor
open Go.ChangeShapes Go.WideShapes Go.ChangeAt Go.RowKit
set_option linter.unusedVariables false
set_option linter.unusedSimpArgs false

/-- How many of the named operations are done. -/
def cntL (ps : List Nat) (listed : Array Bool) : Nat := (ps.filter fun i => listed.getD i false).length
theorem cntL_ne {ps : List Nat} {listed : Array Bool} {i : Nat} (h : i ∉ ps) : cntL ps (listed.setIfInBounds i true) = cntL ps listed := by
  unfold cntL
  rw [List.filter_congr fun j hj => getD_set_ne false (fun e => h (by rw [e]; exact hj))]
theorem cntL_set : ∀ {ps : List Nat} {listed : Array Bool} {i : Nat}, ps.Nodup → i ∈ ps → i < listed.size → listed.getD i false = false → cntL ps (listed.setIfInBounds i true) = cntL ps listed + 1
  | [], _, _, _, h, _, _ => absurd h List.not_mem_nil
  | p :: ps, listed, i, hn, h, hs, hf => by
    obtain ⟨h1, h2⟩ := List.nodup_cons.1 hn
    by_cases hip : i = p
    · subst hip
      have e := cntL_ne (listed := listed) h1
      unfold cntL at e ⊢
      have e1 : (listed.setIfInBounds i true).getD i false = true := by simp [hs]
      rw [List.filter_cons_of_pos (by simpa using e1), List.filter_cons_of_neg (by rw [hf]; simp), List.length_cons, e]
    · have hi : i ∈ ps := by rcases List.mem_cons.1 h with h | h; exact absurd h hip; exact h
      have ih := cntL_set h2 hi hs hf
      unfold cntL at ih ⊢
      have e1 : (listed.setIfInBounds i true).getD p false = listed.getD p false := getD_set_ne false hip
      cases hp : listed.getD p false
      · rw [List.filter_cons_of_neg (by rw [e1, hp]; simp), List.filter_cons_of_neg (by rw [hp]; simp)]; exact ih
      · rw [List.filter_cons_of_pos (by rw [e1, hp]), List.filter_cons_of_pos (by rw [hp]), List.length_cons, List.length_cons, ih]
theorem cntL_lt : ∀ {ps : List Nat} {listed : Array Bool} {i : Nat}, i ∈ ps → listed.getD i false = false → cntL ps listed < ps.length
  | [], _, _, h, _ => absurd h List.not_mem_nil
  | p :: ps, listed, i, h, hf => by
    have hle : cntL ps listed ≤ ps.length := List.length_filter_le _ _
    rcases List.mem_cons.1 h with h | h
    · subst h
      unfold cntL at hle ⊢
      rw [List.filter_cons_of_neg (by rw [hf]; simp), List.length_cons]; omega
    · have ih := cntL_lt h hf
      unfold cntL at ih ⊢
      rw [List.length_cons]
      cases hp : listed.getD p false
      · rw [List.filter_cons_of_neg (by rw [hp]; simp)]; omega
      · rw [List.filter_cons_of_pos (by rw [hp]), List.length_cons]; omega
theorem cntL_all {ps : List Nat} {listed : Array Bool} (h : ∀ i, i ∈ ps → listed.getD i false = true) : cntL ps listed = ps.length := by
  unfold cntL
  rw [List.filter_eq_self.2 fun i hi => h i hi]
theorem cntL_none {ps : List Nat} {n : Nat} : cntL ps (Array.replicate n false) = 0 := by
  unfold cntL
  rw [List.length_eq_zero_iff, List.filter_eq_nil_iff]
  intro i _ hc
  exact rep_false hc
section
variable {P : Program} {L : List Oper} {C : Nat → World → Prop} {R : World → World → Prop} {F : World → Nat → Value → Prop} {s0 : Array Value} {df : List Deferred}
/-- What a named operation must do. -/
def StepTo (P : Program) (l : List Oper) (C C' : World → Prop) (R : World → World → Prop) (F : World → Nat → Value → Prop) (s : List Value) (o : Oper) : Prop :=
  ∀ (a : Act) (w : World), C w → (∀ t ∈ o.looksAt l.toArray, Gs l F s.toArray w t (a.tmps.getD t undef)) → Region.wanted o (yielded l.toArray a.tmps) = true ∧ Good P C' R F o w ((execOp a.eval o).run P w)
/-- What each of the first k must do. -/
def StepAt (P : Program) (l : List Oper) (C : Nat → World → Prop) (R : World → World → Prop) (F : World → Nat → Value → Prop) (s : List Value) (ps : List Nat) (i : Nat) (o : Oper) : Prop :=
  if ps.contains i then ∀ n, n < ps.length → StepTo P l (C n) (C (n + 1)) R F s o else ∀ n, n ≤ ps.length → StepOk P l (C n) R F s o
def StepsAt (p : Nat → Oper → Prop) : Nat → Nat → List Oper → Prop
  | _, 0, _ => True
  | _, _ + 1, [] => True
  | i, k + 1, x :: r => p i x ∧ StepsAt p (i + 1) k r
theorem StepsAt.get {p : Nat → Oper → Prop} : ∀ {j k : Nat} {l : List Oper} {i : Nat} {o : Oper}, StepsAt p j k l → i < k → l[i]? = some o → p (j + i) o
  | _, 0, _, _, _, _, hi, _ => by omega
  | _, k + 1, [], i, o, _, _, h => by simp at h
  | j, k + 1, x :: r, 0, o, h, _, ho => by simp at ho; subst ho; exact h.1
  | j, k + 1, x :: r, i + 1, o, h, hi, ho => by
    simp at ho
    have := StepsAt.get (k := k) h.2 (by omega) ho
    rwa [show j + 1 + i = j + (i + 1) by omega] at this
theorem phase_wpAny {k : Nat} {ps : List Nat} {s : List Value} (hs0 : s0 = s.toArray) (hps : ps.Nodup) (hpk : ∀ i, i ∈ ps → i < k) (hB : splitB L k = true) (hd0 : ∀ d ∈ dstsOf (L.take k), d < s0.size) {Q : Exit → Act → World → Prop} (hmono : ∀ w w' d v, R w w' → F w d v → F w' d v)
    (hstep : ∀ (i : Nat) (o : Oper), i < k → L[i]? = some o → StepAt P (L.take k) C R F s ps i o)
    (hend : ∀ (a : Act) (w : World), C ps.length w → a.defers = df → a.tmps.size = s0.size → (∀ s, s ∉ dstsOf (L.take k) → a.tmps.getD s undef = s0.getD s undef) → (∀ d ∈ dstsOf (L.take k), F w d (a.tmps.getD d undef)) → wpList P L.toArray Q (L.drop k) a w) :
    ∀ (fuel : Nat) (listed : Array Bool) (a : Act) (w : World), unl listed L.length ≤ fuel → (∀ i, k ≤ i → i < L.length → listed.getD i true = false) → listed.size = L.length → Closed L listed → KInv (L.take k) (C (cntL ps listed)) F s0 df listed a w → wpAny P .any L.toArray Q fuel listed a w := by
  obtain ⟨hL, hk, hedge, hwait⟩ := splitB_spec hB
  have behind : ∀ (listed : Array Bool) (w : World), (∀ i, i ∈ ps → listed.getD i false = true) → C (cntL ps listed) w → C ps.length w := fun listed w h1 h2 => by rwa [cntL_all h1] at h2
  obtain ⟨hn, hspec⟩ := loose_spec hL
  have unl_split : ∀ (listed : Array Bool) (m : Nat), m ≤ L.length → (∀ i, m ≤ i → i < L.length → listed.getD i true = false) → L.length - m ≤ unl listed L.length := by
    intro listed m hm h
    have : ∀ j, m ≤ j → j ≤ L.length → j - m ≤ unl listed j := by
      intro j
      induction j with
      | zero => intro _ _; omega
      | succ j ih =>
        intro h1 h2
        by_cases hj : m = j + 1
        · omega
        · have := ih (by omega) (by omega)
          simp only [unl]
          rw [h j (by omega) (by omega)]
          simp; omega
    exact this L.length hm (Nat.le_refl _)
  intro fuel
  induction fuel with
  | zero =>
    intro listed a w hu hun hls hcl hI
    have h0 : unl listed L.length = 0 := by omega
    have hkl : k = L.length := by
      have := unl_split listed k hk hun
      omega
    refine seq_wpAny hB 0 k listed a w (Nat.le_refl _) hk (by omega) hls (fun i hi => getD_true (by rw [hls]; omega) (unl_zero h0 i (by omega))) hun (hend a w (behind listed w (fun q hq => getD_true (by rw [hls]; have := hpk q hq; omega) (unl_zero h0 q (by have := hpk q hq; omega))) hI.cls) hI.dfs hI.size hI.rest fun d hd => ?_)
    unfold dstsOf at hd
    obtain ⟨o2, ho2, hod⟩ := List.mem_filterMap.1 hd
    obtain ⟨j, hj⟩ := List.getElem?_of_mem ho2
    have hjk : j < k := by
      rcases Nat.lt_or_ge j k with h' | h'
      · exact h'
      · rw [List.getElem?_take, if_neg (by omega)] at hj; cases hj
    exact hI.done j o2 d hj (getD_true (by rw [hls]; omega) (unl_zero h0 j (by omega))) hod
  | succ fuel ih =>
    intro listed a w hu hun hls hcl hI
    by_cases hall : ∀ i, i < k → listed.getD i false = true
    · refine seq_wpAny hB (fuel + 1) k listed a w (Nat.le_refl _) hk (Nat.le_trans (unl_split listed k hk hun) hu) hls hall hun (hend a w (behind listed w (fun q hq => hall q (hpk q hq)) hI.cls) hI.dfs hI.size hI.rest fun d hd => ?_)
      unfold dstsOf at hd
      obtain ⟨o2, ho2, hod⟩ := List.mem_filterMap.1 hd
      obtain ⟨j, hj⟩ := List.getElem?_of_mem ho2
      have hjk : j < k := by
        rcases Nat.lt_or_ge j k with h' | h'
        · exact h'
        · rw [List.getElem?_take, if_neg (by omega)] at hj; cases hj
      exact hI.done j o2 d hj (hall j hjk) hod
    · have noneReady : Region.ready .any L.toArray listed = [] → False := by
        intro hr
        apply hall
        have : ∀ j, j ≤ k → ∀ i, i < j → listed.getD i false = true := by
          intro j
          induction j with
          | zero => intro _ i hi; omega
          | succ j ih2 =>
            intro hj i hi
            by_cases hij : i < j
            · exact ih2 (by omega) i hij
            · obtain rfl : i = j := by omega
              have hil : i < L.length := by omega
              cases hb : listed.getD i true with
              | true => exact getD_true (by rw [hls]; exact hil) hb
              | false =>
                exfalso
                have hmem : i ∈ Region.ready .any L.toArray listed := mem_ready.2 ⟨hb, L[i], by simp only [List.getElem?_toArray]; exact List.getElem?_eq_getElem hil, fun e he hbd => ih2 (by omega) _ ((hedge i L[i] (List.getElem?_eq_getElem hil)).1 e he hbd)⟩
                rw [hr] at hmem; cases hmem
        exact fun i hi => this k (Nat.le_refl _) i hi
      refine ⟨fun hr => (noneReady hr).elim, fun i hi => ?_⟩
      obtain ⟨hunI, o, ho, hallE⟩ := mem_ready.1 hi
      have ho' : L[i]? = some o := by simpa only [List.getElem?_toArray] using ho
      have hil : i < L.length := by
        rcases Nat.lt_or_ge i L.length with h' | h'
        · exact h'
        · rw [List.getElem?_eq_none h'] at ho'; cases ho'
      have hik : i < k := by
        rcases Nat.lt_or_ge i k with h' | h'
        · exact h'
        · exfalso
          by_cases hie : i = k
          · subst hie
            apply hall
            have : ∀ q j, i - q ≤ j → j < i → listed.getD j false = true := by
              intro q
              induction q with
              | zero => intro j h1 h2; omega
              | succ q ihq =>
                intro j h1 h2
                obtain ⟨i2, o2, hlt, hle, hi2, e, he, hej, hbd⟩ := hwait j (by omega)
                by_cases hi2e : i2 = i
                · subst hi2e
                  rw [ho'] at hi2; injection hi2 with hi2; subst hi2
                  have := hallE e he hbd
                  rw [hej] at this; exact this
                · have hli2 := ihq i2 (by omega) (by omega)
                  have := hcl i2 o2 hi2 hli2 e he hbd
                  rw [hej] at this; exact this
            exact fun j hj => this i j (by omega) hj
          · obtain ⟨i2, o2, hlt, hle, hi2, e, he, hej, hbd⟩ := hwait (i - 1) (by omega)
            have : i2 = i := by omega
            subst this
            rw [ho'] at hi2; injection hi2 with hi2; subst hi2
            have h3 := hallE e he hbd
            rw [hej] at h3
            have h4 := getD_ft (by rw [hls]; omega) (hun (i2 - 1) (by omega) (by omega))
            rw [h3] at h4; cases h4
      have hcnt := unl_set listed i hunI L.length
      rw [if_pos hil] at hcnt
      have hcl' : Closed L (listed.setIfInBounds i true) := by
        intro j o2 hj hlj e he hbd
        have keep : ∀ q, listed.getD q false = true → (listed.setIfInBounds i true).getD q false = true := by
          intro q hq
          by_cases hiq : i = q
          · subst hiq
            have hlt : i < listed.size := by rw [hls]; exact hil
            simp [hlt]
          · rw [getD_set_ne false hiq]; exact hq
        by_cases hij : i = j
        · subst hij
          rw [ho'] at hj; injection hj with hj; subst hj
          exact keep _ (hallE e he hbd)
        · rw [getD_set_ne false hij] at hlj
          exact keep _ (hcl j o2 hj hlj e he hbd)
      have hoT : (L.take k)[i]? = some o := by rw [List.getElem?_take, if_pos hik]; exact ho'
      have hlook : ∀ s ∈ o.looksAt (L.take k).toArray, Gs (L.take k) F s0 w s (a.tmps.getD s undef) := by
        intro s hs
        unfold Gs
        split
        · rename_i hsd
          unfold dstsOf at hsd
          obtain ⟨o2, ho2, hod⟩ := List.mem_filterMap.1 hsd
          obtain ⟨j, hj⟩ := List.getElem?_of_mem ho2
          obtain ⟨e, he, h3, h4⟩ := (hspec i o hoT).2 s hs j o2 hj hod
          have := hallE e he h4
          rw [h3] at this
          exact hI.done j o2 s hj this hod
        · rename_i hsd
          exact hI.rest s hsd
      have hst0 := hstep i o hik ho'
      have hun' : ∀ j, k ≤ j → j < L.length → (listed.setIfInBounds i true).getD j true = false := fun j h1 h2 => by rw [getD_set_ne true (by omega)]; exact hun j h1 h2
      have next : ∀ v w', C (cntL ps (listed.setIfInBounds i true)) w' → (∀ d v, F w d v → F w' d v) → (∀ d, o.dst = some d → F w' d v) → wpAny P .any L.toArray Q fuel (listed.setIfInBounds i true) (a.put o.dst v) w' := fun v w' hC hm hv => by
        refine ih _ _ _ (by omega) hun' (by simpa using hls) hcl' ?_
        have h1 := hI.put (C := C (cntL ps listed)) hm hn hd0 hoT hunI (w' := w') (v := v)
        by_cases hq : C (cntL ps listed) w'
        · have h2 := h1 hq hv
          exact ⟨hC, h2.dfs, h2.size, h2.rest, h2.done⟩
        · have h2 := (⟨trivial, hI.dfs, hI.size, hI.rest, hI.done⟩ : KInv (L.take k) (fun _ => True) F s0 df listed a w).put hm hn hd0 hoT hunI (w' := w') (v := v) trivial hv
          exact ⟨hC, h2.dfs, h2.size, h2.rest, h2.done⟩
      have hcls := hI.cls
      obtain ⟨C', hC', hCw, hst⟩ : ∃ C' : World → Prop, (∀ w', C' w' → C (cntL ps (listed.setIfInBounds i true)) w') ∧ (Region.wanted o (yielded (L.take k).toArray a.tmps) = false → C' w) ∧ LooseStep P (L.take k) C' R F o a w := by
        unfold StepAt at hst0
        by_cases hip : i ∈ ps
        · have hpf : listed.getD i false = false := getD_ft (by rw [hls]; exact hil) hunI
          rw [if_pos (by simpa using hip)] at hst0
          obtain ⟨hwt, hgo⟩ := hst0 (cntL ps listed) (cntL_lt hip hpf) a w hcls (hs0 ▸ hlook)
          refine ⟨C (cntL ps listed + 1), fun w' h => ?_, (fun h => by rw [hwt] at h; cases h), ?_⟩
          · rw [cntL_set hps hip (by rw [hls]; exact hil) hpf]; exact h
          · unfold LooseStep
            rw [if_pos hwt]
            exact hgo
        · rw [if_neg (by simpa using hip)] at hst0
          exact ⟨C (cntL ps listed), fun w' h => by rw [cntL_ne hip]; exact h, fun _ => hcls, hst0 _ (List.length_filter_le _ _) a w hcls (hs0 ▸ hlook)⟩
      unfold wpOp
      rw [ho]
      show if Region.wanted o (yielded L.toArray a.tmps) = true then _ else _
      rw [wanted_take (k := k) a.tmps ((hedge i o ho').2 hik)]
      unfold LooseStep at hst
      split
      · rename_i hw
        rw [if_pos hw] at hst
        refine .inl ?_
        unfold Oper.wp
        generalize (execOp a.eval o).run P w = r at hst
        cases r with
        | ok n w' =>
          cases n <;> simp only [Oper.upon, Good] at hst ⊢
          case value v => exact next v w' (hC' _ hst.1) (fun d u => hmono _ _ d u hst.2.1) hst.2.2
          case skip => exact next undef w' (hC' _ hst.1) (fun d u => hmono _ _ d u hst.2.1) hst.2.2
          case enter f args => exact hst.mono fun e w'' ⟨v, he, hC, hR, hv⟩ => by subst he; exact next v w'' (hC' _ hC) (fun d u => hmono _ _ d u hR) hv
        | halt x w' => exact hst.elim
      · rename_i hw
        rw [if_neg hw] at hst
        exact next undef w (hC' _ (hCw (by simpa using hw))) (fun _ _ h => h) hst

/-- ONE WALK SERVES EVERY ORDER; what is left behind the first k comes in its order. -/
theorem wp_phaseK {s : List Value} {id : Nat} {Q : Exit → Act → World → Prop} {w : World} (k : Nat) (ps : List Nat) (C : Nat → World → Prop) (R : World → World → Prop) (F : World → Nat → Value → Prop) (hmono : ∀ w w' d v, R w w' → F w d v → F w' d v) (hm : P.follows .mixedOrders = true) (hB : splitB L k = true) (hps : ps.Nodup ∧ ∀ i ∈ ps, i < k) (hd0 : (dstsOf (L.take k)).all (fun d => decide (d < s.length)) = true) (hC : C 0 w.drew)
    (hstep : StepsAt (StepAt P (L.take k) C R F s ps) 0 k L)
    (h : ∀ (x : Nat → Value) (w' : World), (∀ d, d ∈ dstsOf (L.take k) → F w' d (x d)) → C ps.length w' → wpList P L.toArray Q (L.drop k) ⟨(fill s (dstsOf (L.take k)) x).toArray, df⟩ w') : (Code.region id L.toArray true).wp P Q ⟨s.toArray, df⟩ w := by
  have hd0' : ∀ d ∈ dstsOf (L.take k), d < s.toArray.size := fun d hd => by
    have := List.all_eq_true.1 hd0 d hd
    simpa using this
  refine wp_region_any hm ?_
  refine phase_wpAny (P := P) (C := C) (R := R) (F := F) (s0 := s.toArray) (df := df) rfl hps.1 hps.2 hB hd0' hmono (fun i o hik hi => by have := hstep.get hik hi; rwa [Nat.zero_add] at this) (fun a w' hC hdf hsz hrest hF => ?_) _ _ _ _ ?_ (fun i _ hi => ?_) (by simp) (fun i o _ hl => ?_) ⟨by rw [cntL_none]; exact hC, rfl, rfl, fun _ _ => rfl, fun j o d _ hl => ?_⟩
  · have e : a = ⟨(fill s (dstsOf (L.take k)) fun d => a.tmps.getD d undef).toArray, df⟩ := by
      obtain ⟨t, dd⟩ := a
      simp only at hdf hsz hrest hF ⊢
      subst hdf
      congr 1
      have hsz' : t.toList.length = s.length := by simpa using hsz
      have hl : t.toList = fill s (dstsOf (L.take k)) fun d => t.getD d undef := by
        apply List.ext_getElem?
        intro i
        by_cases hi : i < s.length
        · rw [fill_get _ _ _ i hi]
          have ht : i < t.size := by rw [hsz]; simpa using hi
          have hg : t.getD i undef = t[i] := by simp [ht]
          by_cases hm : i ∈ dstsOf (L.take k)
          · rw [if_pos hm, hg]; simp [ht]
          · rw [if_neg hm]
            have := hrest i hm
            rw [hg] at this
            simp [ht, this, hi]
        · rw [List.getElem?_eq_none (by omega), List.getElem?_eq_none (by rw [fill_length]; omega)]
      rw [← hl]
    have h1 := h (fun d => a.tmps.getD d undef) w' hF hC
    rw [← e] at h1
    exact h1
  · have hle : ∀ (b : Array Bool) k, unl b k ≤ k := by
      intro b k
      induction k with
      | zero => simp [unl]
      | succ k ih => simp only [unl]; split <;> omega
    exact Nat.le_trans (hle _ _) (by simp)
  · simp [Array.getElem?_replicate, hi]
  · exact (rep_false hl).elim
  · exact (rep_false hl).elim
theorem step_at {l : List Oper} {s : List Value} {ps : List Nat} {i : Nat} {o : Oper} (hi : ps.contains i = false) (h : ∀ n, n ≤ ps.length → StepOk P l (C n) R F s o) : StepAt P l C R F s ps i o := by
  unfold StepAt; rw [hi]; exact h
theorem step_call {l : List Oper} {s : List Value} {ps : List Nat} {i : Nat} {o : Oper} (hi : ps.contains i = true) (h : ∀ n, n < ps.length → StepTo P l (C n) (C (n + 1)) R F s o) : StepAt P l C R F s ps i o := by
  unfold StepAt; rw [hi]; exact h
theorem step_to {l : List Oper} {C1 C2 : World → Prop} {s : List Value} {o : Oper} (hg : o.guard = none) (h : ∀ (ev : Operand → Value) (w : World), C1 w → Known l F s o w ev → Good P C2 R F o w ((execOp ev o).run P w)) : StepTo P l C1 C2 R F s o :=
  fun a w hC hG => ⟨by simp [Region.wanted, hg], h a.eval w hC ⟨hG, fun _ => rfl, fun _ => rfl⟩⟩
end
end Go.Proofs.YtdnnjahdcabdmaaGreatDoor
/- The permits that are granted in order: appends that must grow, slices.Clip, the walks through the program's inOrder and the reference's l07Grant. -/
namespace Go.Proofs.YtdnnjahdcabdmaaGreatDoor
open Go.ChangeShapes Go.WideShapes Go.ChangeAt Go.RowKit
set_option linter.unusedVariables false
set_option linter.unusedSimpArgs false

/-- An append onto a slice without room. -/
theorem run_grow {P : Program} {w : World} {t ty e : TypeId} {s bytes : Nat} (hE : ElemTy P t e s bytes) {b : Addr} {n cap m c : Nat} {ad : Addr} {olds news : List Value} (hlo : olds.length = n * s) (holds : ∀ j u, olds[j]? = some u → w.cell? (b.add j) = some u)
    (hl : news.length = m * s) (hnews : ∀ j u, news[j]? = some u → w.cell? (ad.add j) = some u) (hg : cap < n + m) (h63 : n + m ≤ maxLen) (hbytes : (n + m) * bytes ≤ 140737488355328) :
    ∃ cap' w', (Builtin.append_ #[t, t] ty #[.slice (some b) n cap, .slice (some ad) m c]).run P w = .ok (.slice (some ⟨w.heap.size, 0, none⟩) (n + m) cap') w' ∧ Own w' w.heap.size e s (.slice (some ⟨w.heap.size, 0, none⟩) (n + m) cap') (n + m) (olds ++ news) ∧ Below w.heap.size w w' := by
  obtain ⟨ht, i, z, hi, hz, hsize, hby, hzs⟩ := hE
  have hsmall : n + m ≤ 9223372036854775807 := by simp only [maxLen] at h63; omega
  have hr := run_append_grow (P := P) w t ty e i z ht hi hz b n cap olds (by rw [hsize]; exact hlo) holds ad m c news (by rw [hsize]; exact hl) hnews hg (by omega) (by rw [hby]; exact growslice_fits (by omega) hbytes)
  have hge := grownCap_ge w (n + m) cap e
  have hle := grownCap_le_maxLen w (n + m) cap e h63
  refine ⟨_, _, hr, ⟨by rw [List.length_append, hlo, hl, Nat.add_mul], _, olds.toArray ++ news.toArray ++ Builtin.zeroCells z.cells (grownCap w (n + m) cap e - (n + m)), rfl, Blk.new w.drew _ _, hge, hle, ?_, ?_⟩, ?_⟩
  · simp only [Array.size_append, List.size_toArray, size_zeroCells, hzs, hlo, hl, ← Nat.add_mul]
    congr 1
    omega
  · rw [Array.toList_append, Array.toList_append]
    rw [List.take_append_of_le_length (by simp [hlo, hl, Nat.add_mul])]
    exact List.take_of_length_le (by simp [hlo, hl, Nat.add_mul])
  · exact (below_drewN (Below.refl w.heap.size w) 1).alloc (by simp) _

/-- Which permits are granted among the first k. -/
def grantTo (K : List Nat → Bool) : Nat → List Nat
  | 0 => []
  | k + 1 => if K (grantTo K k ++ [k]) then grantTo K k ++ [k] else grantTo K k
theorem grantTo_lt (K : List Nat → Bool) : ∀ k, (∀ i, i ∈ grantTo K k → i < k) ∧ (grantTo K k).length ≤ k
  | 0 => ⟨fun i hi => absurd hi (List.not_mem_nil), Nat.le_refl _⟩
  | k + 1 => by
    obtain ⟨h1, h2⟩ := grantTo_lt K k
    unfold grantTo
    split
    · refine ⟨fun i hi => ?_, by simp; omega⟩
      rcases List.mem_append.1 hi with h | h
      · have := h1 i h; omega
      · simp at h; omega
    · exact ⟨fun i hi => by have := h1 i hi; omega, by omega⟩
/-- The permits of a list. -/
def pickP (Q : Nat → Pm) (L : List Nat) : Nat → Pm := fun i => Q (L.getD i 0)
def grK (g : Gr) (n : Nat) (P : Nat → Wt) (Q : Nat → Pm) (L : List Nat) : Bool := keptB g n P L.length (pickP Q L)
theorem pickP_in {g : Gr} {m : Nat} {Q : Nat → Pm} (h : cellsIn g m Q) {L : List Nat} (hL : ∀ i, i ∈ L → i < m) : cellsIn g L.length (pickP Q L) := fun i hi => by
  unfold pickP
  rw [show L.getD i 0 = L[i] by simp [List.getD_eq_getElem?_getD, List.getElem?_eq_getElem hi]]
  exact h _ (hL _ (List.getElem_mem hi))
theorem pickP_pls (Q : Nat → Pm) (L : List Nat) (k : Nat) : pls (L ++ [k]).length (pickP Q (L ++ [k])) = pls L.length (pickP Q L) ++ (Q k).cells.toList := by
  rw [List.length_append, List.length_singleton, pls_succ]
  congr 1
  · exact pls_congr fun i hi => by unfold pickP; simp [List.getD_eq_getElem?_getD, List.getElem?_append_left hi]
  · unfold pickP; simp [List.getD_eq_getElem?_getD]
theorem PSl.cells {w : World} {b o n c : Nat} {P : Nat → Pm} (h : PSl w (.slice (some ⟨b, o, none⟩) n c) n P) : ∀ j u, (pls n P)[j]? = some u → w.cell? ((⟨b, o, none⟩ : Addr).add j) = some u := by
  obtain ⟨a, cap, he, h1, h2, h3⟩ := h
  injection he with e1 e2 e3
  intro j u hu
  have hj : j < n * 3 := by have := (List.getElem?_eq_some_iff.1 hu).1; rwa [pls_length] at this
  rcases h3 with h3 | ⟨b', o', hb, hlt, hc⟩
  · subst h3; omega
  · rw [hb] at e1
    injection e1 with e1
    injection e1 with e1 e4
    subst e1; subst e4
    have := hc (j / 3) (j % 3) (by omega) (by omega)
    rw [show o + j / 3 * 3 + j % 3 = o + j by omega] at this
    have hadd : (⟨b, o, none⟩ : Addr).add j = ⟨b, o + j, none⟩ := by unfold Addr.add; split <;> simp_all
    rw [hadd, this, ← pls_get n P (j / 3) (j % 3) (by omega) (by omega), show j / 3 * 3 + j % 3 = j by omega]
    exact hu
attribute [local irreducible] Calls

section
variable {P : Program} {ops : Array Oper} {rest : List Oper} {o : Oper} {a : Act} {w : World} {Q : Exit → Act → World → Prop}
/-- 'append(s, x)', s having no room. -/
theorem wpList_grow {t e : TypeId} {s bytes : Nat} {sl x : Operand} {b : Addr} {n cap m c : Nat} {ad : Addr} {olds news : List Value} (hE : ElemTy P t e s bytes) (hgd : o.guard = none) (ho : o.op = .call { callee := .builtin .append, args := #[sl, x], argTypes := #[t, t] }) (hv : a.eval sl = .slice (some b) n cap) (hx : a.eval x = .slice (some ad) m c)
    (hlo : olds.length = n * s) (holds : ∀ j u, olds[j]? = some u → w.cell? (b.add j) = some u) (hl : news.length = m * s) (hnews : ∀ j u, news[j]? = some u → w.cell? (ad.add j) = some u) (hg : cap < n + m) (h63 : n + m ≤ maxLen) (hbytes : (n + m) * bytes ≤ 140737488355328)
    (h : ∀ cap' w', Own w' w.heap.size e s (.slice (some ⟨w.heap.size, 0, none⟩) (n + m) cap') (n + m) (olds ++ news) → Below w.heap.size w w' → wpList P ops Q rest (a.put o.dst (.slice (some ⟨w.heap.size, 0, none⟩) (n + m) cap')) w') : wpList P ops Q (o :: rest) a w :=
  wpList_plain hgd fun K hK => by
    obtain ⟨cap', w', hr, h2, h3⟩ := run_grow (P := P) (w := w) (ty := o.type) (c := c) (ad := ad) (b := b) hE hlo holds hl hnews hg h63 hbytes
    unfold Oper.wp execOp
    simp only [ho, resolve, invoke, builtin, Sem.run_bind, Sem.run_pure, Result.andThen_ok, List.map_toArray, List.map_cons, List.map_nil, hv, hx, hr]
    exact hK _ _ (h cap' w' h2 h3)
end
theorem elI64 : ElemTy Tryz.prog 176 2 1 8 := elem_of (z := .int .i64 0) Tryz.underlying176 (by kernel_rfl) rfl
theorem Own.at {w : World} {g : Nat} {e : TypeId} {s : Nat} {v : Value} {n : Nat} {xs : List Value} (h : Own w g e s v n xs) : ∀ j u, xs[j]? = some u → w.cell? ((⟨g, 0, none⟩ : Addr).add j) = some u := fun j u hu => by
  have hj : j < n * s := by have := (List.getElem?_eq_some_iff.1 hu).1; rw [h.1] at this; exact this
  have hadd : (⟨g, 0, none⟩ : Addr).add j = ⟨g, j, none⟩ := by unfold Addr.add; split <;> simp_all
  rw [hadd, h.cell j hj]; exact hu
theorem Blk.at {w : World} {b : Nat} {C : Array Value} {t : TypeId} (h : Blk w b C t) : ∀ j u, C.toList[j]? = some u → w.cell? ((⟨b, 0, none⟩ : Addr).add j) = some u := fun j u hu => by
  have hadd : (⟨b, 0, none⟩ : Addr).add j = ⟨b, j, none⟩ := by unfold Addr.add; split <;> simp_all
  rw [hadd, h.cell]; simpa using hu

/-- An append onto an empty slice without room: nothing that was there turns. -/
theorem run_app0 {P : Program} {w : World} {t ty e : TypeId} {s bytes : Nat} (hE : ElemTy P t e s bytes) {r m c : Nat} {ad : Addr} {news : List Value} (hown : Own w r e s (.slice (some ⟨r, 0, none⟩) 0 0) 0 [])
    (hl : news.length = m * s) (hnews : ∀ j u, news[j]? = some u → w.cell? (ad.add j) = some u) (h63 : m ≤ maxLen) (hbytes : m * bytes ≤ 140737488355328) :
    ∃ g' c' w', (Builtin.append_ #[t, t] ty #[.slice (some ⟨r, 0, none⟩) 0 0, .slice (some ad) m c]).run P w = .ok (.slice (some ⟨g', 0, none⟩) m c') w' ∧ Own w' g' e s (.slice (some ⟨g', 0, none⟩) m c') m news ∧ Below w.heap.size w w' ∧ (g' = r ∨ g' = w.heap.size) := by
  by_cases hm : m = 0
  · subst hm
    obtain rfl : news = [] := List.length_eq_zero_iff.1 (by omega)
    obtain ⟨ht, i, z, hi, hz, hsize, hby, hzs⟩ := hE
    have hr := run_append_room_cells (P := P) w t ty e i ht hi r 0 0 0 ad 0 c [] (by simp) (fun j u h => by simp at h) (fun u h => by cases h) (by omega) (fun j h => by simp at h) (fun j h => by simp at h)
    exact ⟨r, 0, w, hr.trans (by first | rfl | simp [World.setCells]), hown, Below.refl _ _, .inl rfl⟩
  · obtain ⟨cap', w', hr, h2, h3⟩ := run_grow (P := P) (w := w) (ty := ty) (b := ⟨r, 0, none⟩) (n := 0) (cap := 0) (c := c) (olds := []) (ad := ad) hE (by simp) (fun j u h => by simp at h) hl hnews (by omega) (by omega) (by simpa using hbytes)
    rw [Nat.zero_add] at hr h2
    exact ⟨_, cap', w', hr, by simpa using h2, h3, .inr rfl⟩

end Go.Proofs.YtdnnjahdcabdmaaGreatDoor
