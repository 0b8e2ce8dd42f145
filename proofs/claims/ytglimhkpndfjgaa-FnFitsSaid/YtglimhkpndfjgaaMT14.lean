import Derived.Test.YtglimhkpndfjgaaMT13
import Derived.RegionTactic
import Derived.IntWalk
import Derived.Laws.IdiomStrings
import Derived.Test.YtglimhkpndfjgaaMT05
import Derived.Lib.Builder
import Derived.Laws.Concat
import Derived.Test.YtglimhkpndfjgaaMT06
import Derived.Test.YtglimhkpndfjgaaMT01
import Derived.Shelf.Strings.Builder1
import Derived.Shelf.Strings.Builder2
import Derived.Shelf.Small.Bits
import Derived.Shelf.Small.Strs
import Derived.Shelf.Strings.BuilderF
import Derived.Shelf.Strings.BuilderK
import Derived.Shelf.Utf8.RuneCount
import Derived.Shelf.Strings.Builder2Cap
import Derived.Shelf.Strconv.Itoa0
import Derived.Shelf.Strconv.Itoa1
import Derived.Shelf.LaysM
import Derived.Shelf.Strconv.Itoa2
import Derived.Shelf.Strconv.Itoa3
import Derived.Shelf.Strconv.Itoa4
import Derived.Shelf.Strconv.ParseIntEmpty
import Derived.Shelf.Strconv.Clone
import Derived.Shelf.Strconv.SyntaxError
import Derived.Shelf.LaysC
import Derived.Shelf.Strconv.ToError
import Derived.Shelf.Strconv.Lower
import Derived.Shelf.Strconv.ParseUint10
import Derived.Shelf.Strconv.ParseUint10Empty
import Derived.Shelf.Strconv.ParseUint10Any
import Derived.Shelf.Strconv.ParseInt10
import Derived.Shelf.Strconv.RangeError
import Derived.Shelf.Strconv.ToErrorRange
import Derived.Shelf.Strconv.ParseUintEmpty
import Derived.Shelf.Strconv.ParseUint10b64
import Derived.Shelf.Strconv.ParseUint10b32
import Derived.Shelf.Strconv.ParseUint10b16
import Derived.Shelf.Strconv.ParseUint10b8
import Derived.Shelf.Strconv.ParseUint10At
import Derived.Shelf.Strconv.ParseInt10At64
import Derived.Shelf.Strconv.ParseInt10At32
import Derived.Shelf.Strconv.ParseInt10At16
import Derived.Shelf.Strconv.ParseInt10At8
import Derived.Shelf.Strconv.ParseInt10All
import Derived.Shelf.Strconv.ParseIntPublic10
import Derived.Shelf.Strconv.ErrVarParseInt
import Derived.Ground.MpProg
import Derived.Shelf.Pu.ParseUintPublic10
import Derived.Shelf.Pu.ErrVarParseUint
import Derived.Shelf.Strings.Search1
import Derived.Shelf.Strings.Search2
import Derived.Shelf.Strings.Search3
import Derived.Shelf.Strings.Count
import Derived.Shelf.Strings.Shaped
import Derived.Shelf.Strings.Prefix
import Derived.Shelf.Strings.Split
import Derived.Shelf.Strings.SplitShaped
import Derived.Shelf.Unicode.Decode
import Derived.Shelf.Strings.RuneCount
import Derived.Shelf.Strings.Explode
import Derived.Shelf.Bits.Mul64
import Derived.Shelf.Strings.Repeat
import Derived.Shelf.Unicode.DecodeSlow
import Derived.Shelf.Unicode.DecodeAny
import Derived.Shelf.Strings.BuilderCap
import Derived.Test.YtglimhkpndfjgaaMT03
import Derived.Lib.ItoaLen
/- Decimal, in the reference: the walk. -/
namespace Go.Proofs.Ytglimhkpndfjgaa
open Go.ChangeShapes Go.WideShapes Go.ChangeAt Go.RowKit
set_option linter.unusedVariables false
set_option linter.unusedSimpArgs false
attribute [local irreducible] Calls
theorem conv1 {w : World} {r : Nat} {T : TypeId} {c : UInt8} (h : Blk w r #[.int .u8 (c.toNat : Int)] T) : (convert 22 9 (.slice (some ⟨r, 0, none⟩) 1 1)).run Try.prog w = .ok (.string ⟨#[c]⟩) w :=
  run_convert_bytes_back (P := Try.prog) w 22 9 5 ⟨r, 0, none⟩ 1 [c] Try.underlying22 Try.underlying5 Try.underlying9 (fun j hj => by
    have hj : j = 0 := by simpa using hj
    subst hj
    exact h.cell 0)
end Go.Proofs.Ytglimhkpndfjgaa
/- Texts that are put together, and the library's builder of texts between two writes: plain laws; no statement is proved here. -/
namespace Go.Proofs.Ytglimhkpndfjgaa
open Go.ChangeShapes Go.WideShapes Go.ChangeAt Go.RowKit
set_option linter.unusedVariables false

theorem run_addS {P : Program} (t : TypeId) (A B : List UInt8) (h : A.length + B.length ≤ 9223372036854775807) (w : World) : (binOp .add t (.string ⟨A.toArray⟩) (.string ⟨B.toArray⟩)).run P w = .ok (.string ⟨(A ++ B).toArray⟩) w := by
  rw [binOp_string_add, run_string_add_sum w _ _ (by simpa [ByteArray.size] using h), ByteArray.mk_append_mk]
theorem runV_addS {P : Program} (t : TypeId) (A B : List UInt8) (h : A.length + B.length ≤ 9223372036854775807) (w : World) : ((binOp .add t (.string ⟨A.toArray⟩) (.string ⟨B.toArray⟩)).run P w).andThen (fun a w' => Result.ok (Next.value a) w') = .ok (.value (.string ⟨(A ++ B).toArray⟩)) w := by
  rw [run_addS t A B h w]; rfl
theorem exec_addS {P : Program} {ev : Operand → Value} {o : Oper} {t t' : TypeId} {x y : Operand} {A B : List UInt8} (ho : o.op = .binOp .add t x y t') (hx : ev x = .string ⟨A.toArray⟩) (hy : ev y = .string ⟨B.toArray⟩) (h : A.length + B.length ≤ 9223372036854775807) (w : World) : (execOp ev o).run P w = .ok (.value (.string ⟨(A ++ B).toArray⟩)) w := by
  unfold execOp
  have he : (eqGuard .add t x y (.string ⟨A.toArray⟩) (.string ⟨B.toArray⟩)).run P w = .ok () w := rfl
  simp only [ho, hx, hy, Sem.run_bind, he, run_addS t A B h w, Result.andThen_ok, Sem.run_pure]
theorem ownsRow_below {w w' : World} {B : Nat} {e : TypeId} {s : Nat} {v : Value} {n : Nat} {xs : List Value} (h : w.ownsRow B e s v n xs) (hb : Below w.heap.size w w') : w'.ownsRow B e s v n xs := by
  obtain ⟨h1, h2 | ⟨g, cap, cur, h3, h4, h5, h6⟩⟩ := h
  · exact ⟨h1, .inl h2⟩
  · exact ⟨h1, .inr ⟨g, cap, cur, h3, h4, (hb.block g (lt_of_block h5)).trans h5, h6⟩⟩
theorem builderAt_below {T e : TypeId} {B b : Nat} {p : Value} {bs : List Value} {w w' : World} (h : Lib.BuilderAt T e B b p bs w) (hb : Below w.heap.size w w') : Lib.BuilderAt T e B b p bs w' := by
  obtain ⟨h1, v, h2, h3, h4⟩ := h
  exact ⟨h1, v, (hb.block b (lt_of_block h2)).trans h2, ownsRow_below h3 hb, h4⟩
theorem isBuilder_below {T e : TypeId} {B b : Nat} {bs : List Value} {w w' : World} (h : Lib.IsBuilder T e B b bs w) (hb : Below w.heap.size w w') : Lib.IsBuilder T e B b bs w' :=
  h.imp (fun h => builderAt_below h hb) (fun h => builderAt_below h hb)
theorem isBuilder_lt {T e : TypeId} {B b : Nat} {bs : List Value} {w : World} (h : Lib.IsBuilder T e B b bs w) : b < w.heap.size := by
  rcases h with h | h <;> exact h.lt
theorem strCells_eq (l : List UInt8) : Lib.strCells ⟨l.toArray⟩ = Lib.byteCells l := by simp [Lib.strCells, Lib.byteCells]
theorem byteCells_app (l m : List UInt8) : Lib.byteCells l ++ Lib.byteCells m = Lib.byteCells (l ++ m) := by simp [Lib.byteCells]
theorem byteCells_len (l : List UInt8) : (Lib.byteCells l).length = l.length := by simp [Lib.byteCells]
end Go.Proofs.Ytglimhkpndfjgaa
/- A region that draws its order, whose last operations come one behind the other behind all others: one walk serves every order. A plain law; no statement is proved here. -/
namespace Go.Proofs.Ytglimhkpndfjgaa
open Go.ChangeShapes Go.WideShapes Go.ChangeAt Go.RowKit
set_option linter.unusedVariables false
set_option linter.unusedSimpArgs false

/-- The first k wait for no later one and ask none; each operation but the last is waited for: one of the first k by one of the first k + 1 that is later, any other by the next one; and none of those behind waits for a later one. -/
def splitB (L : List Oper) (k : Nat) : Bool :=
  (looseB (L.take k) && decide (k ≤ L.length)) && (((List.range L.length).all fun i => match L[i]? with
    | none => true
    | some o => o.after.toList.all (fun e => decide (e.on < i) || !Region.binds .any e) && (decide (k ≤ i) || (match o.guard with | none => true | some g => decide (g.1 < k)))) &&
  (List.range (L.length - 1)).all fun p => (List.range L.length).any fun i => (decide (p < i) && decide (i ≤ max (p + 1) k)) && match L[i]? with
    | none => false
    | some o => o.after.toList.any fun e => e.on == p && Region.binds .any e)
theorem splitB_spec {L : List Oper} {k : Nat} (h : splitB L k = true) : looseB (L.take k) = true ∧ k ≤ L.length ∧ (∀ (i : Nat) (o : Oper), L[i]? = some o → (∀ e ∈ o.after, Region.binds .any e = true → e.on < i) ∧ (i < k → ∀ g, o.guard = some g → g.1 < k)) ∧ ∀ p, p < L.length - 1 → ∃ (i : Nat) (o : Oper), p < i ∧ i ≤ max (p + 1) k ∧ L[i]? = some o ∧ ∃ e ∈ o.after, e.on = p ∧ Region.binds .any e = true := by
  unfold splitB at h
  simp only [Bool.and_eq_true, List.all_eq_true, List.any_eq_true, List.mem_range, decide_eq_true_eq] at h
  refine ⟨h.1.1, h.1.2, fun i o hi => ?_, fun p hp => ?_⟩
  · have hil : i < L.length := by
      rcases Nat.lt_or_ge i L.length with h' | h'
      · exact h'
      · rw [List.getElem?_eq_none h'] at hi; cases hi
    have h1 := h.2.1 i hil
    rw [hi] at h1
    simp only [Bool.and_eq_true, List.all_eq_true, Bool.or_eq_true, decide_eq_true_eq] at h1
    refine ⟨fun e he hb => ?_, fun hik g hg => ?_⟩
    · rcases h1.1 e (by simpa using he) with h2 | h2
      · exact h2
      · rw [hb] at h2; cases h2
    · rcases h1.2 with h2 | h2
      · omega
      · rw [hg] at h2; simpa using h2
  · obtain ⟨i, hi, ⟨hlt, hle⟩, h2⟩ := h.2.2 p hp
    cases ho : L[i]? with
    | none => rw [ho] at h2; cases h2
    | some o =>
      rw [ho] at h2
      simp only [List.any_eq_true, Bool.and_eq_true, beq_iff_eq] at h2
      obtain ⟨e, he, h3, h4⟩ := h2
      exact ⟨i, o, hlt, hle, ho, e, by simpa using he, h3, h4⟩
theorem wanted_take {L : List Oper} {k : Nat} {o : Oper} (t : Array Value) (h : ∀ g, o.guard = some g → g.1 < k) : Region.wanted o (yielded L.toArray t) = Region.wanted o (yielded (L.take k).toArray t) := by
  unfold Region.wanted
  cases hg : o.guard with
  | none => rfl
  | some g =>
    have := h g hg
    unfold yielded
    have e : L.toArray[g.1]? = (L.take k).toArray[g.1]? := by
      simp only [List.getElem?_toArray]
      rw [List.getElem?_take, if_pos this]
    simp only [e]

section
variable {P : Program} {L : List Oper} {C : World → Prop} {R : World → World → Prop} {F : World → Nat → Value → Prop} {s0 : Array Value} {df : List Deferred}

theorem getD_ft {listed : Array Bool} {i : Nat} (hi : i < listed.size) (h : listed.getD i true = false) : listed.getD i false = false := by
  simp [hi] at h ⊢; exact h
/-- The first m have come up and no other, m being at least k: what is left comes in its order. -/
theorem seq_wpAny {k : Nat} (hB : splitB L k = true) {Q : Exit → Act → World → Prop} : ∀ (fuel m : Nat) (listed : Array Bool) (a : Act) (w : World), k ≤ m → m ≤ L.length → L.length - m ≤ fuel → listed.size = L.length → (∀ i, i < m → listed.getD i false = true) → (∀ i, m ≤ i → i < L.length → listed.getD i true = false) → wpList P L.toArray Q (L.drop m) a w → wpAny P .any L.toArray Q fuel listed a w := by
  obtain ⟨hL, hk, hedge, hwait⟩ := splitB_spec hB
  have only : ∀ (m : Nat) (listed : Array Bool), k ≤ m → listed.size = L.length → (∀ i, i < m → listed.getD i false = true) → (∀ i, m ≤ i → i < L.length → listed.getD i true = false) → ∀ i, i ∈ Region.ready .any L.toArray listed → i = m := by
    intro m listed hkm hsz h1 h2 i hi
    obtain ⟨hun, o, ho, hall⟩ := mem_ready.1 hi
    have ho' : L[i]? = some o := by simpa only [List.getElem?_toArray] using ho
    have hil : i < L.length := by
      rcases Nat.lt_or_ge i L.length with h' | h'
      · exact h'
      · rw [List.getElem?_eq_none h'] at ho'; cases ho'
    by_cases him : i < m
    · have := getD_false (h1 i him); rw [hun] at this; cases this
    · by_cases hie : i = m
      · exact hie
      · exfalso
        obtain ⟨i2, o2, hlt, hle, hi2, e, he, hep, hbd⟩ := hwait (i - 1) (by omega)
        have : i2 = i := by omega
        subst this
        rw [ho'] at hi2; injection hi2 with hi2; subst hi2
        have h3 := hall e he hbd
        rw [hep] at h3
        have h4 := getD_ft (by omega) (h2 (i2 - 1) (by omega) (by omega))
        rw [h3] at h4; cases h4
  intro fuel
  induction fuel with
  | zero =>
    intro m listed a w hkm hm hf hsz h1 h2 hw
    obtain rfl : m = L.length := by omega
    rw [List.drop_length] at hw
    refine ⟨?_, hw⟩
    cases hr : Region.ready .any L.toArray listed with
    | nil => rfl
    | cons j js =>
      exfalso
      have hj : j ∈ Region.ready .any L.toArray listed := by rw [hr]; exact List.mem_cons_self
      have := only _ listed hkm hsz h1 h2 j hj
      subst this
      obtain ⟨_, o, ho, _⟩ := mem_ready.1 hj
      simp at ho
  | succ fuel ih =>
    intro m listed a w hkm hm hf hsz h1 h2 hw
    by_cases hme : m = L.length
    · subst hme
      rw [List.drop_length] at hw
      refine ⟨fun _ => hw, fun j hj => ?_⟩
      have := only _ listed hkm hsz h1 h2 j hj
      subst this
      obtain ⟨_, o, ho, _⟩ := mem_ready.1 hj
      simp at ho
    · have hlt : m < L.length := by omega
      have hget : L[m]? = some L[m] := List.getElem?_eq_getElem hlt
      have hready : m ∈ Region.ready .any L.toArray listed := mem_ready.2 ⟨h2 m (Nat.le_refl _) hlt, L[m], by simp only [List.getElem?_toArray]; exact hget, fun e he hbd => h1 _ ((hedge m L[m] hget).1 e he hbd)⟩
      refine ⟨fun hr => (by rw [hr] at hready; cases hready), fun j hj => ?_⟩
      have := only _ listed hkm hsz h1 h2 j hj
      subst this
      rw [List.drop_eq_getElem_cons hlt] at hw
      have next : ∀ a w, wpList P L.toArray Q (L.drop (j + 1)) a w → wpAny P .any L.toArray Q fuel (listed.setIfInBounds j true) a w := fun a w h => by
        refine ih (j + 1) _ a w (by omega) (by omega) (by omega) (by simpa using hsz) (fun i hi => ?_) (fun i h3 h4 => ?_) h
        · by_cases hij : j = i
          · subst hij; simp [hsz, hlt]
          · rw [getD_set_ne false hij]; exact h1 i (by omega)
        · rw [getD_set_ne true (by omega)]; exact h2 i (by omega) h4
      unfold wpOp
      simp only [List.getElem?_toArray, hget]
      unfold wpList at hw
      split
      · rename_i hwd
        rw [if_pos hwd] at hw
        rcases hw with hw | hw
        · exact .inl (Oper.wp_mono next hw)
        · exact .inr hw
      · rename_i hwd
        rw [if_neg hwd] at hw
        exact next _ _ hw

/-- The invariant. -/
structure KInv (l : List Oper) (C : World → Prop) (F : World → Nat → Value → Prop) (s0 : Array Value) (df : List Deferred) (listed : Array Bool) (a : Act) (w : World) : Prop where
  cls : C w
  dfs : a.defers = df
  size : a.tmps.size = s0.size
  rest : ∀ s, s ∉ dstsOf l → a.tmps.getD s undef = s0.getD s undef
  done : ∀ (j : Nat) (o : Oper) (d : Nat), l[j]? = some o → listed.getD j false = true → o.dst = some d → F w d (a.tmps.getD d undef)
theorem KInv.put {l : List Oper} {listed : Array Bool} {a : Act} {w w' : World} (hmono : ∀ d v, F w d v → F w' d v) (hn : (dstsOf l).Nodup) (hd0 : ∀ d ∈ dstsOf l, d < s0.size) (h : KInv l C F s0 df listed a w) {i : Nat} {o : Oper} (hi : l[i]? = some o) (hun : listed.getD i true = false) {v : Value} (hC : C w') (hv : ∀ d, o.dst = some d → F w' d v) :
    KInv l C F s0 df (listed.setIfInBounds i true) (a.put o.dst v) w' := by
  cases hd : o.dst with
  | none =>
    refine ⟨hC, h.dfs, h.size, h.rest, fun j o' d hj hl ho' => ?_⟩
    by_cases hij : i = j
    · subst hij; rw [hi] at hj; injection hj with hj; subst hj; rw [hd] at ho'; cases ho'
    · rw [getD_set_ne false hij] at hl; exact hmono _ _ (h.done j o' d hj hl ho')
  | some d =>
    have hmem : d ∈ dstsOf l := by unfold dstsOf; exact List.mem_filterMap.2 ⟨_, List.mem_of_getElem? hi, hd⟩
    have hlt := hd0 d hmem
    refine ⟨hC, h.dfs, by simpa [Act.put] using h.size, fun s hs => ?_, fun j o' d' hj hl ho' => ?_⟩
    · have hsd : d ≠ s := fun e => hs (e ▸ hmem)
      have := h.rest s hs
      simp only [Act.put]
      rw [← this]
      simp [Array.getElem?_setIfInBounds_ne hsd]
    · by_cases hij : i = j
      · subst hij; rw [hi] at hj; injection hj with hj; subst hj
        rw [hd] at ho'; injection ho' with ho'; subst ho'
        have : (a.put (some d) v).tmps.getD d undef = v := by simp [Act.put, h.size, hlt]
        rw [this]; exact hv d hd
      · rw [getD_set_ne false hij] at hl
        have hdd : d ≠ d' := fun e => by subst e; exact hij (nodup_dst hn hi hj hd ho')
        have := h.done j o' d' hj hl ho'
        have e2 : (a.put (some d) v).tmps.getD d' undef = a.tmps.getD d' undef := by simp [Act.put, Array.getElem?_setIfInBounds_ne hdd]
        rw [e2]; exact hmono _ _ this

theorem split_wpAny {k : Nat} (hB : splitB L k = true) (hd0 : ∀ d ∈ dstsOf (L.take k), d < s0.size) {Q : Exit → Act → World → Prop} (hmono : ∀ w w' d v, R w w' → F w d v → F w' d v)
    (hstep : ∀ (i : Nat) (o : Oper), i < k → L[i]? = some o → ∀ (a : Act) (w : World), C w → (∀ s ∈ o.looksAt (L.take k).toArray, Gs (L.take k) F s0 w s (a.tmps.getD s undef)) → LooseStep P (L.take k) C R F o a w)
    (hend : ∀ (a : Act) (w : World), C w → a.defers = df → a.tmps.size = s0.size → (∀ s, s ∉ dstsOf (L.take k) → a.tmps.getD s undef = s0.getD s undef) → (∀ d ∈ dstsOf (L.take k), F w d (a.tmps.getD d undef)) → wpList P L.toArray Q (L.drop k) a w) :
    ∀ (fuel : Nat) (listed : Array Bool) (a : Act) (w : World), unl listed L.length ≤ fuel → (∀ i, k ≤ i → i < L.length → listed.getD i true = false) → listed.size = L.length → Closed L listed → KInv (L.take k) C F s0 df listed a w → wpAny P .any L.toArray Q fuel listed a w := by
  obtain ⟨hL, hk, hedge, hwait⟩ := splitB_spec hB
  obtain ⟨hn, hspec⟩ := loose_spec hL
  have unl_split : ∀ (listed : Array Bool) (m : Nat), m ≤ L.length → (∀ i, m ≤ i → i < L.length → listed.getD i true = false) → L.length - m ≤ unl listed L.length := by
    intro listed m hm h
    have : ∀ j, m ≤ j → j ≤ L.length → j - m ≤ unl listed j := by
      intro j
      induction j with
      | zero => intro _ _; omega
      | succ j ih =>
        intro h1 h2
        by_cases hj : m = j + 1
        · omega
        · have := ih (by omega) (by omega)
          simp only [unl]
          rw [h j (by omega) (by omega)]
          simp; omega
    exact this L.length hm (Nat.le_refl _)
  intro fuel
  induction fuel with
  | zero =>
    intro listed a w hu hun hls hcl hI
    have h0 : unl listed L.length = 0 := by omega
    have hkl : k = L.length := by
      have := unl_split listed k hk hun
      omega
    refine seq_wpAny hB 0 k listed a w (Nat.le_refl _) hk (by omega) hls (fun i hi => getD_true (by rw [hls]; omega) (unl_zero h0 i (by omega))) hun (hend a w hI.cls hI.dfs hI.size hI.rest fun d hd => ?_)
    unfold dstsOf at hd
    obtain ⟨o2, ho2, hod⟩ := List.mem_filterMap.1 hd
    obtain ⟨j, hj⟩ := List.getElem?_of_mem ho2
    have hjk : j < k := by
      rcases Nat.lt_or_ge j k with h' | h'
      · exact h'
      · rw [List.getElem?_take, if_neg (by omega)] at hj; cases hj
    exact hI.done j o2 d hj (getD_true (by rw [hls]; omega) (unl_zero h0 j (by omega))) hod
  | succ fuel ih =>
    intro listed a w hu hun hls hcl hI
    by_cases hall : ∀ i, i < k → listed.getD i false = true
    · refine seq_wpAny hB (fuel + 1) k listed a w (Nat.le_refl _) hk (Nat.le_trans (unl_split listed k hk hun) hu) hls hall hun (hend a w hI.cls hI.dfs hI.size hI.rest fun d hd => ?_)
      unfold dstsOf at hd
      obtain ⟨o2, ho2, hod⟩ := List.mem_filterMap.1 hd
      obtain ⟨j, hj⟩ := List.getElem?_of_mem ho2
      have hjk : j < k := by
        rcases Nat.lt_or_ge j k with h' | h'
        · exact h'
        · rw [List.getElem?_take, if_neg (by omega)] at hj; cases hj
      exact hI.done j o2 d hj (hall j hjk) hod
    · have noneReady : Region.ready .any L.toArray listed = [] → False := by
        intro hr
        apply hall
        have : ∀ j, j ≤ k → ∀ i, i < j → listed.getD i false = true := by
          intro j
          induction j with
          | zero => intro _ i hi; omega
          | succ j ih2 =>
            intro hj i hi
            by_cases hij : i < j
            · exact ih2 (by omega) i hij
            · obtain rfl : i = j := by omega
              have hil : i < L.length := by omega
              cases hb : listed.getD i true with
              | true => exact getD_true (by rw [hls]; exact hil) hb
              | false =>
                exfalso
                have hmem : i ∈ Region.ready .any L.toArray listed := mem_ready.2 ⟨hb, L[i], by simp only [List.getElem?_toArray]; exact List.getElem?_eq_getElem hil, fun e he hbd => ih2 (by omega) _ ((hedge i L[i] (List.getElem?_eq_getElem hil)).1 e he hbd)⟩
                rw [hr] at hmem; cases hmem
        exact fun i hi => this k (Nat.le_refl _) i hi
      refine ⟨fun hr => (noneReady hr).elim, fun i hi => ?_⟩
      obtain ⟨hunI, o, ho, hallE⟩ := mem_ready.1 hi
      have ho' : L[i]? = some o := by simpa only [List.getElem?_toArray] using ho
      have hil : i < L.length := by
        rcases Nat.lt_or_ge i L.length with h' | h'
        · exact h'
        · rw [List.getElem?_eq_none h'] at ho'; cases ho'
      have hik : i < k := by
        rcases Nat.lt_or_ge i k with h' | h'
        · exact h'
        · exfalso
          by_cases hie : i = k
          · subst hie
            apply hall
            have : ∀ q j, i - q ≤ j → j < i → listed.getD j false = true := by
              intro q
              induction q with
              | zero => intro j h1 h2; omega
              | succ q ihq =>
                intro j h1 h2
                obtain ⟨i2, o2, hlt, hle, hi2, e, he, hej, hbd⟩ := hwait j (by omega)
                by_cases hi2e : i2 = i
                · subst hi2e
                  rw [ho'] at hi2; injection hi2 with hi2; subst hi2
                  have := hallE e he hbd
                  rw [hej] at this; exact this
                · have hli2 := ihq i2 (by omega) (by omega)
                  have := hcl i2 o2 hi2 hli2 e he hbd
                  rw [hej] at this; exact this
            exact fun j hj => this i j (by omega) hj
          · obtain ⟨i2, o2, hlt, hle, hi2, e, he, hej, hbd⟩ := hwait (i - 1) (by omega)
            have : i2 = i := by omega
            subst this
            rw [ho'] at hi2; injection hi2 with hi2; subst hi2
            have h3 := hallE e he hbd
            rw [hej] at h3
            have h4 := getD_ft (by rw [hls]; omega) (hun (i2 - 1) (by omega) (by omega))
            rw [h3] at h4; cases h4
      have hcnt := unl_set listed i hunI L.length
      rw [if_pos hil] at hcnt
      have hcl' : Closed L (listed.setIfInBounds i true) := by
        intro j o2 hj hlj e he hbd
        have keep : ∀ q, listed.getD q false = true → (listed.setIfInBounds i true).getD q false = true := by
          intro q hq
          by_cases hiq : i = q
          · subst hiq
            have hlt : i < listed.size := by rw [hls]; exact hil
            simp [hlt]
          · rw [getD_set_ne false hiq]; exact hq
        by_cases hij : i = j
        · subst hij
          rw [ho'] at hj; injection hj with hj; subst hj
          exact keep _ (hallE e he hbd)
        · rw [getD_set_ne false hij] at hlj
          exact keep _ (hcl j o2 hj hlj e he hbd)
      have hoT : (L.take k)[i]? = some o := by rw [List.getElem?_take, if_pos hik]; exact ho'
      have hlook : ∀ s ∈ o.looksAt (L.take k).toArray, Gs (L.take k) F s0 w s (a.tmps.getD s undef) := by
        intro s hs
        unfold Gs
        split
        · rename_i hsd
          unfold dstsOf at hsd
          obtain ⟨o2, ho2, hod⟩ := List.mem_filterMap.1 hsd
          obtain ⟨j, hj⟩ := List.getElem?_of_mem ho2
          obtain ⟨e, he, h3, h4⟩ := (hspec i o hoT).2 s hs j o2 hj hod
          have := hallE e he h4
          rw [h3] at this
          exact hI.done j o2 s hj this hod
        · rename_i hsd
          exact hI.rest s hsd
      have hst := hstep i o hik ho' a w hI.cls hlook
      have hun' : ∀ j, k ≤ j → j < L.length → (listed.setIfInBounds i true).getD j true = false := fun j h1 h2 => by rw [getD_set_ne true (by omega)]; exact hun j h1 h2
      have next : ∀ v w', C w' → (∀ d v, F w d v → F w' d v) → (∀ d, o.dst = some d → F w' d v) → wpAny P .any L.toArray Q fuel (listed.setIfInBounds i true) (a.put o.dst v) w' := fun v w' hC hm hv =>
        ih _ _ _ (by omega) hun' (by simpa using hls) hcl' (hI.put hm hn hd0 hoT hunI hC hv)
      unfold wpOp
      rw [ho]
      show if Region.wanted o (yielded L.toArray a.tmps) = true then _ else _
      rw [wanted_take (k := k) a.tmps ((hedge i o ho').2 hik)]
      unfold LooseStep at hst
      split
      · rename_i hw
        rw [if_pos hw] at hst
        refine .inl ?_
        unfold Oper.wp
        generalize (execOp a.eval o).run P w = r at hst
        cases r with
        | ok n w' =>
          cases n <;> simp only [Oper.upon, Good] at hst ⊢
          case value v => exact next v w' hst.1 (fun d u => hmono _ _ d u hst.2.1) hst.2.2
          case skip => exact next undef w' hst.1 (fun d u => hmono _ _ d u hst.2.1) hst.2.2
          case enter f args => exact hst.mono fun e w'' ⟨v, he, hC, hR, hv⟩ => by subst he; exact next v w'' hC (fun d u => hmono _ _ d u hR) hv
        | halt x w' => exact hst.elim
      · rename_i hw
        rw [if_neg hw] at hst
        exact next undef w hI.cls (fun _ _ h => h) hst

/-- p holds of the first k. -/
def StepsK (p : Oper → Prop) : Nat → List Oper → Prop
  | 0, _ => True
  | _ + 1, [] => True
  | k + 1, x :: r => p x ∧ StepsK p k r
theorem StepsK.get {p : Oper → Prop} : ∀ {k : Nat} {l : List Oper} {i : Nat} {o : Oper}, StepsK p k l → i < k → l[i]? = some o → p o
  | 0, _, _, _, _, hi, _ => by omega
  | k + 1, [], i, o, _, _, h => by simp at h
  | k + 1, x :: r, 0, o, h, _, ho => by simp at ho; subst ho; exact h.1
  | k + 1, x :: r, i + 1, o, h, hi, ho => by simp at ho; exact StepsK.get (k := k) h.2 (by omega) ho

/-- ONE WALK SERVES EVERY ORDER; what is left behind the first k comes in its order. -/
theorem wp_splitK {s : List Value} {id : Nat} {Q : Exit → Act → World → Prop} {w : World} (k : Nat) (C : World → Prop) (R : World → World → Prop) (F : World → Nat → Value → Prop) (hmono : ∀ w w' d v, R w w' → F w d v → F w' d v) (hm : P.follows .mixedOrders = true) (hB : splitB L k = true) (hd0 : (dstsOf (L.take k)).all (fun d => decide (d < s.length)) = true) (hC : C w.drew)
    (hstep : StepsK (StepOk P (L.take k) C R F s) k L)
    (h : ∀ (x : Nat → Value) (w' : World), (∀ d, d ∈ dstsOf (L.take k) → F w' d (x d)) → C w' → wpList P L.toArray Q (L.drop k) ⟨(fill s (dstsOf (L.take k)) x).toArray, df⟩ w') : (Code.region id L.toArray true).wp P Q ⟨s.toArray, df⟩ w := by
  have hd0' : ∀ d ∈ dstsOf (L.take k), d < s.toArray.size := fun d hd => by
    have := List.all_eq_true.1 hd0 d hd
    simpa using this
  refine wp_region_any hm ?_
  refine split_wpAny (P := P) (C := C) (R := R) (F := F) (s0 := s.toArray) (df := df) hB hd0' hmono (fun i o hik hi => hstep.get hik hi) (fun a w' hC hdf hsz hrest hF => ?_) _ _ _ _ ?_ (fun i _ hi => ?_) (by simp) (fun i o _ hl => ?_) ⟨hC, rfl, rfl, fun _ _ => rfl, fun j o d _ hl => ?_⟩
  · have e : a = ⟨(fill s (dstsOf (L.take k)) fun d => a.tmps.getD d undef).toArray, df⟩ := by
      obtain ⟨t, dd⟩ := a
      simp only at hdf hsz hrest hF ⊢
      subst hdf
      congr 1
      have hsz' : t.toList.length = s.length := by simpa using hsz
      have hl : t.toList = fill s (dstsOf (L.take k)) fun d => t.getD d undef := by
        apply List.ext_getElem?
        intro i
        by_cases hi : i < s.length
        · rw [fill_get _ _ _ i hi]
          have ht : i < t.size := by rw [hsz]; simpa using hi
          have hg : t.getD i undef = t[i] := by simp [ht]
          by_cases hm : i ∈ dstsOf (L.take k)
          · rw [if_pos hm, hg]; simp [ht]
          · rw [if_neg hm]
            have := hrest i hm
            rw [hg] at this
            simp [ht, this, hi]
        · rw [List.getElem?_eq_none (by omega), List.getElem?_eq_none (by rw [fill_length]; omega)]
      rw [← hl]
    have h1 := h (fun d => a.tmps.getD d undef) w' hF hC
    rw [← e] at h1
    exact h1
  · have hle : ∀ (b : Array Bool) k, unl b k ≤ k := by
      intro b k
      induction k with
      | zero => simp [unl]
      | succ k ih => simp only [unl]; split <;> omega
    exact Nat.le_trans (hle _ _) (by simp)
  · simp [Array.getElem?_replicate, hi]
  · exact (rep_false hl).elim
  · exact (rep_false hl).elim
end
end Go.Proofs.Ytglimhkpndfjgaa
/- This seat has no contracts of texts: an empty text, so that the others find it. -/
namespace Go.Proofs.Ytglimhkpndfjgaa
end Go.Proofs.Ytglimhkpndfjgaa
/- This seat has no contracts of texts: the imports alone, so that the others find what they need. -/
namespace Go.Proofs.Ytglimhkpndfjgaa
end Go.Proofs.Ytglimhkpndfjgaa
/- The text of permits, in the program and in the reference: the walks. -/
namespace Go.Proofs.Ytglimhkpndfjgaa
open Go.ChangeShapes Go.WideShapes Go.ChangeAt Go.RowKit
set_option linter.unusedVariables false
set_option linter.unusedSimpArgs false
attribute [local irreducible] Calls

def badCell (p : Pm) : Bool := !decide (0 ≤ p.cel) || !decide (p.cel ≤ 63)
def badOC (p : Pm) : Bool := badOwner p || badCell p
def badAny (p : Pm) : Bool := badOwner p || badCell p || badRate p
/-- Have permits a text? -/
def plainPt (n : Nat) (P : Nat → Pm) : Bool := decide (n ≤ 6) && !anyTo badAny P n
theorem plainPt_eq (n : Nat) (P : Nat → Pm) : plainPt n P = (ratesAre n P && !anyTo badOC P n) := by
  unfold plainPt ratesAre
  cases h6 : decide (n ≤ 6)
  · rfl
  · simp only [Bool.true_and]
    cases h : anyTo badAny P n
    · have h1 := anyTo_false.1 h
      have h2 : anyTo badRate P n = false := anyTo_false.2 fun i hi => by
        have := h1 i hi; unfold badAny at this; simp only [Bool.or_eq_false_iff] at this; exact this.2
      have h3 : anyTo badOC P n = false := anyTo_false.2 fun i hi => by
        have := h1 i hi; unfold badAny at this; simp only [Bool.or_eq_false_iff] at this; unfold badOC; simp [this.1.1, this.1.2]
      rw [h2, h3]; rfl
    · cases h2 : anyTo badRate P n
      · cases h3 : anyTo badOC P n
        · have : anyTo badAny P n = false := anyTo_false.2 fun i hi => by
            have q2 := anyTo_false.1 h2 i hi
            have q3 := anyTo_false.1 h3 i hi
            unfold badOC at q3
            simp only [Bool.or_eq_false_iff] at q3
            unfold badAny
            simp [q2, q3.1, q3.2]
          rw [this] at h; cases h
        · rfl
      · rfl
theorem plainPt_parts {n : Nat} {P : Nat → Pm} (h : plainPt n P = true) : n ≤ 6 ∧ ∀ i, i < n → (0 ≤ (P i).own ∧ (P i).own ≤ 7) ∧ (0 ≤ (P i).cel ∧ (P i).cel ≤ 63) ∧ (0 ≤ (P i).rat ∧ (P i).rat ≤ 400) := by
  unfold plainPt at h
  simp only [Bool.and_eq_true, decide_eq_true_eq, Bool.not_eq_true'] at h
  refine ⟨h.1, fun i hi => ?_⟩
  have := anyTo_false.1 h.2 i hi
  unfold badAny badOwner badCell badRate at this
  simp only [Bool.or_eq_false_iff, Bool.not_eq_false', decide_eq_true_eq] at this
  omega
/-- A permit's row. -/
def rowPm (p : Pm) : List UInt8 := (((((Lib.decDigits p.own.toNat ++ ([32] : List UInt8)) ++ Lib.decDigits p.cel.toNat) ++ ([32] : List UInt8)) ++ Lib.decDigits p.rat.toNat) ++ ([10] : List UInt8))
def txtPm (P : Nat → Pm) : Nat → List UInt8
  | 0 => []
  | k + 1 => txtPm P k ++ rowPm (P k)
theorem dec_len {x : Int} (h : 0 ≤ x ∧ x ≤ 400) : (Lib.decDigits x.toNat).length ≤ 3 := decDigits_len_le 2 _ (by omega)
theorem rowPm_len {p : Pm} (h : (0 ≤ p.own ∧ p.own ≤ 7) ∧ (0 ≤ p.cel ∧ p.cel ≤ 63) ∧ (0 ≤ p.rat ∧ p.rat ≤ 400)) : (rowPm p).length ≤ 12 := by
  unfold rowPm
  have h1 := dec_len (x := p.own) (by omega)
  have h2 := dec_len (x := p.cel) (by omega)
  have h3 := dec_len (x := p.rat) (by omega)
  simp; omega
theorem txtPm_len {P : Nat → Pm} : ∀ {k : Nat}, (∀ i, i < k → (0 ≤ (P i).own ∧ (P i).own ≤ 7) ∧ (0 ≤ (P i).cel ∧ (P i).cel ≤ 63) ∧ (0 ≤ (P i).rat ∧ (P i).rat ≤ 400)) → (txtPm P k).length ≤ 12 * k
  | 0, _ => by simp [txtPm]
  | k + 1, h => by
    have ih := txtPm_len (P := P) (k := k) (fun i hi => h i (by omega))
    have := rowPm_len (h k (by omega))
    unfold txtPm; simp; omega
theorem below_grow (w : World) (k : Nat) (os : Array Obj) : Below w.heap.size w (Sort.grow (w.drewN k) os) :=
  ⟨rfl, rfl, rfl, by simp [Sort.grow], fun j hj => by simp [Sort.grow, Array.getElem?_append, hj]⟩
end Go.Proofs.Ytglimhkpndfjgaa
