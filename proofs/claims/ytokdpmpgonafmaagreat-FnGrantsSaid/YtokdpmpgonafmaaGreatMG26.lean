import Derived.Test.YtokdpmpgonafmaaGreatMG24
import Derived.Test.YtokdpmpgonafmaaGreatMG14
/- Appends that write into a row in place or make a new one: what of the memory they leave alone. Plain laws; no statement is proved here. -/
namespace Go.Proofs.YtokdpmpgonafmaaGreat
open Go.ChangeShapes Go.WideShapes Go.ChangeAt Go.RowKit
set_option linter.unusedVariables false
set_option linter.unusedSimpArgs false

/-- The row C with the values news from p on. -/
def over_ (C : Array Value) (p : Nat) (news : List Value) : Array Value := (C.toList.take p ++ news ++ C.toList.drop (p + news.length)).toArray
theorem over_size {C : Array Value} {p : Nat} {news : List Value} (h : p + news.length ≤ C.size) : (over_ C p news).size = C.size := by
  unfold over_; simp; omega
theorem over_take {C : Array Value} {p : Nat} {news : List Value} (h : p + news.length ≤ C.size) (k : Nat) (hk : k ≤ p) : (over_ C p news).toList.take k = C.toList.take k := by
  unfold over_
  rw [List.toList_toArray, List.append_assoc, List.take_append_of_le_length (by simp; omega), List.take_take, Nat.min_eq_left hk]
theorem over_new {C : Array Value} {p : Nat} {news : List Value} (h : p + news.length ≤ C.size) : (over_ C p news).toList.take (p + news.length) = C.toList.take p ++ news := by
  unfold over_
  rw [List.toList_toArray, List.take_append_of_le_length (by simp; omega)]
  exact List.take_of_length_le (by simp; omega)
/-- Block g has news from p on; else it is as it was. -/
def PutAt (w w' : World) (g p : Nat) (news : List Value) : Prop := ∃ C t, w.heap[g]? = some (.cells C t (0, 0)) ∧ p + news.length ≤ C.size ∧ w'.heap[g]? = some (.cells (over_ C p news) t (0, 0))
theorem PutAt.old {w w' : World} {g p : Nat} {news : List Value} (h : PutAt w w' g p news) {e : TypeId} {s n : Nat} {v : Value} {xs : List Value} (ho : Own w g e s v n xs) (hp : n * s ≤ p) : Own w' g e s v n xs := by
  obtain ⟨C, t, h1, h2, h3⟩ := h
  obtain ⟨hx, cap, cur, rfl, hb, q1, q2, q3, q4⟩ := ho
  have hb' : w.heap[g]? = some (.cells cur e (0, 0)) := hb
  rw [hb'] at h1
  injection h1 with h1; injection h1 with h1 ht
  subst h1; subst ht
  exact ⟨hx, cap, over_ cur p news, rfl, h3, q1, q2, by rw [over_size h2, q3], by rw [over_take h2 _ hp, q4]⟩
theorem PutAt.again {w w' : World} {g p : Nat} {news : List Value} (h : PutAt w w' g p news) {e : TypeId} {s n : Nat} {v : Value} {xs : List Value} (ho : Own w g e s v n (xs ++ news)) (hp : xs.length = p) : Own w' g e s v n (xs ++ news) := by
  obtain ⟨C, t, h1, h2, h3⟩ := h
  obtain ⟨hx, cap, cur, rfl, hb, q1, q2, q3, q4⟩ := ho
  have hb' : w.heap[g]? = some (.cells cur e (0, 0)) := hb
  rw [hb'] at h1
  injection h1 with h1; injection h1 with h1 ht
  subst h1; subst ht
  have hns : n * s = p + news.length := by rw [← hx, List.length_append, hp]
  refine ⟨hx, cap, over_ cur p news, rfl, h3, q1, q2, by rw [over_size h2, q3], ?_⟩
  rw [hns, over_new h2]
  have h5 : cur.toList.take p = xs := by
    rw [hns] at q4
    have := congrArg (List.take p) q4
    rw [List.take_take, Nat.min_eq_left (by omega), List.take_append_of_le_length (by omega), ← hp, List.take_length] at this
    rw [← hp]; exact this
  rw [h5]
/-- An append onto an own row: a new row, or the old one written in place. -/
theorem run_app2 {P : Program} {w : World} {t ty e : TypeId} {s bytes : Nat} (hE : ElemTy P t e s bytes) {g n cap : Nat} {xs : List Value} (hown : Own w g e s (.slice (some ⟨g, 0, none⟩) n cap) n xs)
    {ad : Addr} {m c : Nat} {news : List Value} (hl : news.length = m * s) (hnews : ∀ j u, news[j]? = some u → w.cell? (ad.add j) = some u) (h1 : ∀ u ∈ news, u.oneCell' = true) (h63 : n + m ≤ maxLen) (hbytes : (n + m) * bytes ≤ 140737488355328) :
    ∃ g' cap' w', (Builtin.append_ #[t, t] ty #[.slice (some ⟨g, 0, none⟩) n cap, .slice (some ad) m c]).run P w = .ok (.slice (some ⟨g', 0, none⟩) (n + m) cap') w' ∧ Own w' g' e s (.slice (some ⟨g', 0, none⟩) (n + m) cap') (n + m) (xs ++ news) ∧
      w.grownBy w' (some g) ∧ ((g' = w.heap.size ∧ Below w.heap.size w w') ∨ (g' = g ∧ PutAt w w' g (n * s) news)) := by
  by_cases hroom : n + m ≤ cap
  · obtain ⟨ht, i, z, hi, hz, hsize, hby, hzs⟩ := hE
    obtain ⟨hx, cap2, cur, hv, hb, q1, q2, q3, q4⟩ := hown
    have e2 : cap = cap2 := by injection hv
    subst e2
    have hfit : n * s + news.length ≤ cur.size := by rw [hl, q3, ← Nat.add_mul]; exact Nat.mul_le_mul_right _ hroom
    have hr := run_append_room (P := P) w t ty e i ht hi g n cap cur hb ad m c news (by rw [hsize]; exact hl) hnews h1 hroom (by rw [hsize]; exact hfit)
    rw [hsize] at hr
    have hp : PutAt w (w.setRow g (over_ cur (n * s) news)) g (n * s) news := ⟨cur, e, hb, hfit, hb.setRow _⟩
    refine ⟨g, cap, w.setRow g (over_ cur (n * s) news), hr, ⟨by rw [List.length_append, hx, hl, Nat.add_mul], cap, _, rfl, hb.setRow _, hroom, q2, by rw [over_size hfit, q3], ?_⟩, ⟨rfl, rfl, rfl, by simp, fun j hj hne => setRow_other w g j _ (fun e => hne (by rw [e]))⟩, .inr ⟨rfl, hp⟩⟩
    rw [Nat.add_mul, ← hl, over_new hfit, q4]
  · obtain ⟨cap', w', hr, h2, h3⟩ := run_grow (P := P) (w := w) (ty := ty) (b := ⟨g, 0, none⟩) (n := n) (cap := cap) (c := c) (olds := xs) (ad := ad) hE hown.1 hown.at hl hnews (by omega) h63 hbytes
    exact ⟨_, cap', w', hr, h2, ⟨h3.os, h3.tape, h3.output, h3.size, fun b hb _ => h3.block b hb⟩, .inl ⟨rfl, h3⟩⟩
/-- Two rows may have been written in place; all else is as it was. -/
structure Two (go po : Nat) (lo : List Value) (gb pb : Nat) (lb : List Value) (w w' : World) : Prop where
  os : w'.os = w.os
  tape : w'.tape = w.tape
  output : w'.output = w.output
  size : w.heap.size ≤ w'.heap.size
  block : ∀ b, b < w.heap.size → w'.heap[b]? = w.heap[b]? ∨ (b = go ∧ PutAt w w' go po lo) ∨ (b = gb ∧ PutAt w w' gb pb lb)
section
variable {go po gb pb : Nat} {lo lb : List Value} {w w' : World}
theorem Two.of_below (h : Below w.heap.size w w') : Two go po lo gb pb lb w w' := ⟨h.os, h.tape, h.output, h.size, fun b hb => .inl (h.block b hb)⟩
theorem Two.refl : Two go po lo gb pb lb w w := Two.of_below (Below.refl _ _)
theorem Two.left (h : w.grownBy w' (some go)) (hp : PutAt w w' go po lo) : Two go po lo gb pb lb w w' := ⟨h.os, h.tape, h.output, h.size, fun b hb => by
  by_cases e : b = go
  · exact .inr (.inl ⟨e, hp⟩)
  · exact .inl (h.block b hb (fun e2 => e (Option.some.inj e2)))⟩
theorem Two.right (h : w.grownBy w' (some gb)) (hp : PutAt w w' gb pb lb) : Two go po lo gb pb lb w w' := ⟨h.os, h.tape, h.output, h.size, fun b hb => by
  by_cases e : b = gb
  · exact .inr (.inr ⟨e, hp⟩)
  · exact .inl (h.block b hb (fun e2 => e (Option.some.inj e2)))⟩
theorem Two.blk (h : Two go po lo gb pb lb w w') {b : Nat} {C : Array Value} {t : TypeId} (hb : Blk w b C t) (h1 : b ≠ go) (h2 : b ≠ gb) : Blk w' b C t := by
  rcases h.block b hb.lt with e | ⟨e, _⟩ | ⟨e, _⟩
  · exact e.trans hb
  · exact absurd e h1
  · exact absurd e h2
theorem Two.own (h : Two go po lo gb pb lb w w') {b : Nat} {e : TypeId} {s n : Nat} {v : Value} {xs : List Value} (ho : Own w b e s v n xs) (h1 : b = go → n * s ≤ po ∨ ∃ ys, xs = ys ++ lo ∧ ys.length = po) (h2 : b = gb → n * s ≤ pb ∨ ∃ ys, xs = ys ++ lb ∧ ys.length = pb) : Own w' b e s v n xs := by
  rcases h.block b ho.lt with e' | ⟨e', hp⟩ | ⟨e', hp⟩
  · exact ho.move e'
  · subst e'
    rcases h1 rfl with h1 | ⟨ys, rfl, h3⟩
    · exact hp.old ho h1
    · exact hp.again ho h3
  · subst e'
    rcases h2 rfl with h2 | ⟨ys, rfl, h3⟩
    · exact hp.old ho h2
    · exact hp.again ho h3
theorem Two.below (h : Two go po lo gb pb lb w w') {B : Nat} {a : World} (hb : Below B a w) (h1 : B ≤ go) (h2 : B ≤ gb) (hB : B ≤ w.heap.size) : Below B a w' :=
  hb.trans ⟨h.os, h.tape, h.output, h.size, fun k hk => by
    rcases h.block k (by omega) with e | ⟨e, _⟩ | ⟨e, _⟩
    · exact e
    · omega
    · omega⟩
end
/-- A store into one cell of a block: the world behind it by what it holds. -/
theorem wpList_store_cell {P : Program} {ops : Array Oper} {rest : List Oper} {o : Oper} {a : Act} {Q : Exit → Act → World → Prop} {w : World} {ty t : TypeId} {x y : Operand} {b f : Nat} {v : Value} {C : Array Value} (hgd : o.guard = none) (ho : o.op = .store ty x y) (hx : a.eval x = .pointer (some ⟨b, f, none⟩)) (hy : a.eval y = v) (hi : (P.info? ty).map (·.size) = some 1) (hv : v.cells = #[v]) (h1 : v.oneCell' = true) (hb : Blk w b C t) (hf : f < C.size)
    (h : ∀ W, Blk W b (C.setIfInBounds f v) t → w.grownBy W (some b) → wpList P ops Q rest (a.put o.dst undef) W) : wpList P ops Q (o :: rest) a w :=
  wpList_plain hgd fun K hK => by
    have hst := run_storeCells_at P b f t [v] 0 C w hb (by simp; omega) (by simpa using h1)
    unfold Oper.wp execOp
    cases hq : P.info? ty with
    | none => simp [hq] at hi
    | some i =>
      have hsz : i.size = 1 := by simpa [hq] using hi
      simp only [ho, hx, hy, Instr.storeAt, Instr.sureAddr, Sem.run_bind, Sem.run_pure, Result.andThen_ok]
      obtain ⟨W, hW, hB, hG⟩ : ∃ W, (storeVar ty ⟨b, f, none⟩ v).run P w = .ok () W ∧ Blk W b (C.setIfInBounds f v) t ∧ w.grownBy W (some b) := by
        refine ⟨w.setRow b (splice C f #[v]), ?_, ?_, ?_⟩
        · have hst' : (storeCells ⟨b, f, none⟩ [v] 0).run P w = .ok () (w.setRow b (splice C f #[v])) := by simpa [splice] using hst
          simp [storeVar, sizeOf, typeInfo, hq, hv, hsz, hst']
        · have := hb.setRow (splice C f #[v])
          have e : splice C f #[v] = C.setIfInBounds f v := by
            unfold splice
            apply Array.ext'
            simp only [Array.toList_setIfInBounds]
            rw [List.set_eq_take_append_cons_drop, if_pos (by simpa using hf)]
            simp
          rw [e] at this ⊢
          exact this
        · exact ⟨rfl, rfl, rfl, by simp, fun j hj hne => setRow_other w b j _ (fun e => hne (by rw [e]))⟩
      rw [hW]
      exact hK _ _ (h W hB hG)
theorem own_ne {w : World} {b g : Nat} {C : Array Value} {t e : TypeId} {s n : Nat} {v : Value} {xs : List Value} (hb : Blk w b C t) (ho : Own w g e s v n xs) (h : t ≠ e) : b ≠ g := by
  intro e1
  subst e1
  obtain ⟨_, cap, cur, _, hb2, _⟩ := ho
  have h1 : w.heap[b]? = some (.cells C t (0, 0)) := hb
  have h2 : w.heap[b]? = some (.cells cur e (0, 0)) := hb2
  rw [h1] at h2
  injection h2 with h2; injection h2 with _ h2
  exact h h2
theorem own_ne2 {w : World} {b g : Nat} {t e : TypeId} {s s' n n' : Nat} {v v' : Value} {xs xs' : List Value} (hb : Own w b t s' v' n' xs') (ho : Own w g e s v n xs) (h : t ≠ e) : b ≠ g := by
  obtain ⟨_, cap, cur, _, hb2, _⟩ := hb
  exact own_ne hb2 ho h
end Go.Proofs.YtokdpmpgonafmaaGreat
/- A region that draws its order, one of whose first operations is a store: what holds of the memory ahead of it and behind it. A plain law; no statement is proved here. -/
namespace Go.Proofs.YtokdpmpgonafmaaGreat
open Go.ChangeShapes Go.WideShapes Go.ChangeAt Go.RowKit
set_option linter.unusedVariables false
set_option linter.unusedSimpArgs false

/-- The store stands at p, unguarded; each other one of the first k gives a value; those that the store doesn't wait for are the ones whose slots are named. -/
def pivotB (L : List Oper) (k p : Nat) (free : List Nat) : Bool :=
  decide (p < k) && match L[p]? with
    | none => false
    | some q => (q.dst.isNone && q.guard.isNone) && (List.range k).all fun i => decide (i = p) || match L[i]? with
      | none => false
      | some o => match o.dst with
        | none => false
        | some d => free.contains d || q.after.toList.any fun e => e.on == i && Region.binds .any e
section
variable {P : Program} {L : List Oper} {CE CL : World → Prop} {R : World → World → Prop} {F : World → Nat → Value → Prop} {s0 : Array Value} {df : List Deferred}
/-- What holds of the memory: CE ahead of the store, CL behind it. -/
def Ph (CE CL : World → Prop) (p : Nat) (listed : Array Bool) (w : World) : Prop := if listed.getD p false = true then CL w else CE w
/-- What the store must do. -/
def PivotOk (P : Program) (l : List Oper) (CE CL : World → Prop) (R : World → World → Prop) (F : World → Nat → Value → Prop) (s : List Value) (o : Oper) : Prop :=
  ∀ (a : Act) (w : World), CE w → (∀ t ∈ o.looksAt l.toArray, Gs l F s.toArray w t (a.tmps.getD t undef)) → Good P CL R F o w ((execOp a.eval o).run P w)
/-- What each of the first k must do. -/
def StepPh (P : Program) (l : List Oper) (CE CL : World → Prop) (R : World → World → Prop) (F : World → Nat → Value → Prop) (s : List Value) (free : List Nat) (o : Oper) : Prop :=
  match o.dst with
  | none => PivotOk P l CE CL R F s o
  | some d => StepOk P l CE R F s o ∧ (free.contains d = true → StepOk P l CL R F s o)
theorem pivotB_spec {L : List Oper} {k p : Nat} {free : List Nat} (h : pivotB L k p free = true) : p < k ∧ ∃ q, L[p]? = some q ∧ q.dst = none ∧ q.guard = none ∧ ∀ i, i < k → i ≠ p → ∃ o d, L[i]? = some o ∧ o.dst = some d ∧ (free.contains d = true ∨ ∃ e ∈ q.after, e.on = i ∧ Region.binds .any e = true) := by
  unfold pivotB at h
  rw [Bool.and_eq_true, decide_eq_true_eq] at h
  refine ⟨h.1, ?_⟩
  have h2 := h.2
  cases hq : L[p]? with
  | none => rw [hq] at h2; cases h2
  | some q =>
    rw [hq] at h2
    simp only [Bool.and_eq_true, Option.isNone_iff_eq_none, List.all_eq_true, List.mem_range] at h2
    refine ⟨q, rfl, h2.1.1, h2.1.2, fun i hi hip => ?_⟩
    have h3 := h2.2 i hi
    rw [decide_eq_false hip, Bool.false_or] at h3
    cases ho : L[i]? with
    | none => rw [ho] at h3; cases h3
    | some o =>
      rw [ho] at h3
      cases hd : o.dst with
      | none => simp only [hd] at h3; cases h3
      | some d =>
        simp only [hd] at h3
        refine ⟨o, d, rfl, hd, ?_⟩
        rw [Bool.or_eq_true] at h3
        rcases h3 with h3 | h3
        · exact .inl h3
        · right
          simp only [List.any_eq_true, Bool.and_eq_true, beq_iff_eq] at h3
          obtain ⟨e, he, h4, h5⟩ := h3
          exact ⟨e, by simpa using he, h4, h5⟩
theorem ph_set {p i : Nat} {listed : Array Bool} {w : World} (hip : i ≠ p) (h : Ph CE CL p listed w) : Ph CE CL p (listed.setIfInBounds i true) w := by
  unfold Ph at h ⊢; rwa [getD_set_ne false hip]
theorem pivot_wpAny {k p : Nat} {free : List Nat} {s : List Value} (hs0 : s0 = s.toArray) (hpv : pivotB L k p free = true) (hB : splitB L k = true) (hd0 : ∀ d ∈ dstsOf (L.take k), d < s0.size) {Q : Exit → Act → World → Prop} (hmono : ∀ w w' d v, R w w' → F w d v → F w' d v)
    (hstep : ∀ (i : Nat) (o : Oper), i < k → L[i]? = some o → StepPh P (L.take k) CE CL R F s free o)
    (hend : ∀ (a : Act) (w : World), CL w → a.defers = df → a.tmps.size = s0.size → (∀ s, s ∉ dstsOf (L.take k) → a.tmps.getD s undef = s0.getD s undef) → (∀ d ∈ dstsOf (L.take k), F w d (a.tmps.getD d undef)) → wpList P L.toArray Q (L.drop k) a w) :
    ∀ (fuel : Nat) (listed : Array Bool) (a : Act) (w : World), unl listed L.length ≤ fuel → (∀ i, k ≤ i → i < L.length → listed.getD i true = false) → listed.size = L.length → Closed L listed → KInv (L.take k) (Ph CE CL p listed) F s0 df listed a w → wpAny P .any L.toArray Q fuel listed a w := by
  obtain ⟨hL, hk, hedge, hwait⟩ := splitB_spec hB
  obtain ⟨hpk, qv, hqv, hqd, hqg, hfree⟩ := pivotB_spec hpv
  have behind : ∀ (listed : Array Bool) (w : World), listed.getD p false = true → Ph CE CL p listed w → CL w := fun listed w h1 h2 => by unfold Ph at h2; rwa [if_pos h1] at h2
  obtain ⟨hn, hspec⟩ := loose_spec hL
  have unl_split : ∀ (listed : Array Bool) (m : Nat), m ≤ L.length → (∀ i, m ≤ i → i < L.length → listed.getD i true = false) → L.length - m ≤ unl listed L.length := by
    intro listed m hm h
    have : ∀ j, m ≤ j → j ≤ L.length → j - m ≤ unl listed j := by
      intro j
      induction j with
      | zero => intro _ _; omega
      | succ j ih =>
        intro h1 h2
        by_cases hj : m = j + 1
        · omega
        · have := ih (by omega) (by omega)
          simp only [unl]
          rw [h j (by omega) (by omega)]
          simp; omega
    exact this L.length hm (Nat.le_refl _)
  intro fuel
  induction fuel with
  | zero =>
    intro listed a w hu hun hls hcl hI
    have h0 : unl listed L.length = 0 := by omega
    have hkl : k = L.length := by
      have := unl_split listed k hk hun
      omega
    refine seq_wpAny hB 0 k listed a w (Nat.le_refl _) hk (by omega) hls (fun i hi => getD_true (by rw [hls]; omega) (unl_zero h0 i (by omega))) hun (hend a w (behind listed w (getD_true (by rw [hls]; omega) (unl_zero h0 p (by omega))) hI.cls) hI.dfs hI.size hI.rest fun d hd => ?_)
    unfold dstsOf at hd
    obtain ⟨o2, ho2, hod⟩ := List.mem_filterMap.1 hd
    obtain ⟨j, hj⟩ := List.getElem?_of_mem ho2
    have hjk : j < k := by
      rcases Nat.lt_or_ge j k with h' | h'
      · exact h'
      · rw [List.getElem?_take, if_neg (by omega)] at hj; cases hj
    exact hI.done j o2 d hj (getD_true (by rw [hls]; omega) (unl_zero h0 j (by omega))) hod
  | succ fuel ih =>
    intro listed a w hu hun hls hcl hI
    by_cases hall : ∀ i, i < k → listed.getD i false = true
    · refine seq_wpAny hB (fuel + 1) k listed a w (Nat.le_refl _) hk (Nat.le_trans (unl_split listed k hk hun) hu) hls hall hun (hend a w (behind listed w (hall p hpk) hI.cls) hI.dfs hI.size hI.rest fun d hd => ?_)
      unfold dstsOf at hd
      obtain ⟨o2, ho2, hod⟩ := List.mem_filterMap.1 hd
      obtain ⟨j, hj⟩ := List.getElem?_of_mem ho2
      have hjk : j < k := by
        rcases Nat.lt_or_ge j k with h' | h'
        · exact h'
        · rw [List.getElem?_take, if_neg (by omega)] at hj; cases hj
      exact hI.done j o2 d hj (hall j hjk) hod
    · have noneReady : Region.ready .any L.toArray listed = [] → False := by
        intro hr
        apply hall
        have : ∀ j, j ≤ k → ∀ i, i < j → listed.getD i false = true := by
          intro j
          induction j with
          | zero => intro _ i hi; omega
          | succ j ih2 =>
            intro hj i hi
            by_cases hij : i < j
            · exact ih2 (by omega) i hij
            · obtain rfl : i = j := by omega
              have hil : i < L.length := by omega
              cases hb : listed.getD i true with
              | true => exact getD_true (by rw [hls]; exact hil) hb
              | false =>
                exfalso
                have hmem : i ∈ Region.ready .any L.toArray listed := mem_ready.2 ⟨hb, L[i], by simp only [List.getElem?_toArray]; exact List.getElem?_eq_getElem hil, fun e he hbd => ih2 (by omega) _ ((hedge i L[i] (List.getElem?_eq_getElem hil)).1 e he hbd)⟩
                rw [hr] at hmem; cases hmem
        exact fun i hi => this k (Nat.le_refl _) i hi
      refine ⟨fun hr => (noneReady hr).elim, fun i hi => ?_⟩
      obtain ⟨hunI, o, ho, hallE⟩ := mem_ready.1 hi
      have ho' : L[i]? = some o := by simpa only [List.getElem?_toArray] using ho
      have hil : i < L.length := by
        rcases Nat.lt_or_ge i L.length with h' | h'
        · exact h'
        · rw [List.getElem?_eq_none h'] at ho'; cases ho'
      have hik : i < k := by
        rcases Nat.lt_or_ge i k with h' | h'
        · exact h'
        · exfalso
          by_cases hie : i = k
          · subst hie
            apply hall
            have : ∀ q j, i - q ≤ j → j < i → listed.getD j false = true := by
              intro q
              induction q with
              | zero => intro j h1 h2; omega
              | succ q ihq =>
                intro j h1 h2
                obtain ⟨i2, o2, hlt, hle, hi2, e, he, hej, hbd⟩ := hwait j (by omega)
                by_cases hi2e : i2 = i
                · subst hi2e
                  rw [ho'] at hi2; injection hi2 with hi2; subst hi2
                  have := hallE e he hbd
                  rw [hej] at this; exact this
                · have hli2 := ihq i2 (by omega) (by omega)
                  have := hcl i2 o2 hi2 hli2 e he hbd
                  rw [hej] at this; exact this
            exact fun j hj => this i j (by omega) hj
          · obtain ⟨i2, o2, hlt, hle, hi2, e, he, hej, hbd⟩ := hwait (i - 1) (by omega)
            have : i2 = i := by omega
            subst this
            rw [ho'] at hi2; injection hi2 with hi2; subst hi2
            have h3 := hallE e he hbd
            rw [hej] at h3
            have h4 := getD_ft (by rw [hls]; omega) (hun (i2 - 1) (by omega) (by omega))
            rw [h3] at h4; cases h4
      have hcnt := unl_set listed i hunI L.length
      rw [if_pos hil] at hcnt
      have hcl' : Closed L (listed.setIfInBounds i true) := by
        intro j o2 hj hlj e he hbd
        have keep : ∀ q, listed.getD q false = true → (listed.setIfInBounds i true).getD q false = true := by
          intro q hq
          by_cases hiq : i = q
          · subst hiq
            have hlt : i < listed.size := by rw [hls]; exact hil
            simp [hlt]
          · rw [getD_set_ne false hiq]; exact hq
        by_cases hij : i = j
        · subst hij
          rw [ho'] at hj; injection hj with hj; subst hj
          exact keep _ (hallE e he hbd)
        · rw [getD_set_ne false hij] at hlj
          exact keep _ (hcl j o2 hj hlj e he hbd)
      have hoT : (L.take k)[i]? = some o := by rw [List.getElem?_take, if_pos hik]; exact ho'
      have hlook : ∀ s ∈ o.looksAt (L.take k).toArray, Gs (L.take k) F s0 w s (a.tmps.getD s undef) := by
        intro s hs
        unfold Gs
        split
        · rename_i hsd
          unfold dstsOf at hsd
          obtain ⟨o2, ho2, hod⟩ := List.mem_filterMap.1 hsd
          obtain ⟨j, hj⟩ := List.getElem?_of_mem ho2
          obtain ⟨e, he, h3, h4⟩ := (hspec i o hoT).2 s hs j o2 hj hod
          have := hallE e he h4
          rw [h3] at this
          exact hI.done j o2 s hj this hod
        · rename_i hsd
          exact hI.rest s hsd
      have hst0 := hstep i o hik ho'
      have hun' : ∀ j, k ≤ j → j < L.length → (listed.setIfInBounds i true).getD j true = false := fun j h1 h2 => by rw [getD_set_ne true (by omega)]; exact hun j h1 h2
      have next : ∀ v w', Ph CE CL p (listed.setIfInBounds i true) w' → (∀ d v, F w d v → F w' d v) → (∀ d, o.dst = some d → F w' d v) → wpAny P .any L.toArray Q fuel (listed.setIfInBounds i true) (a.put o.dst v) w' := fun v w' hC hm hv => by
        refine ih _ _ _ (by omega) hun' (by simpa using hls) hcl' ?_
        have h1 := hI.put (C := Ph CE CL p listed) hm hn hd0 hoT hunI (w' := w') (v := v)
        by_cases hq : Ph CE CL p listed w'
        · have h2 := h1 hq hv
          exact ⟨hC, h2.dfs, h2.size, h2.rest, h2.done⟩
        · have h2 := (⟨trivial, hI.dfs, hI.size, hI.rest, hI.done⟩ : KInv (L.take k) (fun _ => True) F s0 df listed a w).put hm hn hd0 hoT hunI (w' := w') (v := v) trivial hv
          exact ⟨hC, h2.dfs, h2.size, h2.rest, h2.done⟩
      have hcls := hI.cls
      obtain ⟨C', hC', hCw, hst⟩ : ∃ C' : World → Prop, (∀ w', C' w' → Ph CE CL p (listed.setIfInBounds i true) w') ∧ (Region.wanted o (yielded (L.take k).toArray a.tmps) = false → C' w) ∧ LooseStep P (L.take k) C' R F o a w := by
        by_cases hip : i = p
        · subst hip
          rw [ho'] at hqv; injection hqv with hqv; subst hqv
          have hpf : listed.getD i false = false := getD_ft (by rw [hls]; exact hil) hunI
          have hCE : CE w := by unfold Ph at hcls; rwa [if_neg (by rw [hpf]; simp)] at hcls
          unfold StepPh at hst0
          rw [hqd] at hst0
          have hwt : Region.wanted o (yielded (L.take k).toArray a.tmps) = true := by simp [Region.wanted, hqg]
          refine ⟨CL, fun w' h => ?_, (fun h => by rw [hwt] at h; cases h), ?_⟩
          · unfold Ph
            have hlt : i < listed.size := by rw [hls]; exact hil
            rw [if_pos (by simp [hlt])]; exact h
          · unfold LooseStep
            rw [if_pos hwt]
            exact (show PivotOk P (L.take k) CE CL R F s o from hst0) a w hCE (hs0 ▸ hlook)
        · obtain ⟨o2, d, ho2, hd, hfr⟩ := hfree i hik hip
          rw [ho'] at ho2; injection ho2 with ho2; subst ho2
          unfold StepPh at hst0
          rw [hd] at hst0
          cases hp : listed.getD p false
          · have hCE : CE w := by unfold Ph at hcls; rwa [if_neg (by rw [hp]; simp)] at hcls
            refine ⟨CE, fun w' h => ph_set hip (by unfold Ph; rw [if_neg (by rw [hp]; simp)]; exact h), fun _ => hCE, hst0.1 a w hCE (hs0 ▸ hlook)⟩
          · have hCL : CL w := by unfold Ph at hcls; rwa [if_pos hp] at hcls
            rcases hfr with hfr | ⟨e, he, hei, hbd⟩
            · exact ⟨CL, fun w' h => ph_set hip (by unfold Ph; rw [if_pos hp]; exact h), fun _ => hCL, hst0.2 hfr a w hCL (hs0 ▸ hlook)⟩
            · exfalso
              have h3 := hcl p qv hqv hp e he hbd
              rw [hei] at h3
              have h4 := getD_ft (by rw [hls]; exact hil) hunI
              rw [h3] at h4; cases h4
      unfold wpOp
      rw [ho]
      show if Region.wanted o (yielded L.toArray a.tmps) = true then _ else _
      rw [wanted_take (k := k) a.tmps ((hedge i o ho').2 hik)]
      unfold LooseStep at hst
      split
      · rename_i hw
        rw [if_pos hw] at hst
        refine .inl ?_
        unfold Oper.wp
        generalize (execOp a.eval o).run P w = r at hst
        cases r with
        | ok n w' =>
          cases n <;> simp only [Oper.upon, Good] at hst ⊢
          case value v => exact next v w' (hC' _ hst.1) (fun d u => hmono _ _ d u hst.2.1) hst.2.2
          case skip => exact next undef w' (hC' _ hst.1) (fun d u => hmono _ _ d u hst.2.1) hst.2.2
          case enter f args => exact hst.mono fun e w'' ⟨v, he, hC, hR, hv⟩ => by subst he; exact next v w'' (hC' _ hC) (fun d u => hmono _ _ d u hR) hv
        | halt x w' => exact hst.elim
      · rename_i hw
        rw [if_neg hw] at hst
        exact next undef w (hC' _ (hCw (by simpa using hw))) (fun _ _ h => h) hst

/-- ONE WALK SERVES EVERY ORDER; what is left behind the first k comes in its order. -/
theorem wp_pivotK {s : List Value} {id : Nat} {Q : Exit → Act → World → Prop} {w : World} (k p : Nat) (free : List Nat) (CE CL : World → Prop) (R : World → World → Prop) (F : World → Nat → Value → Prop) (hmono : ∀ w w' d v, R w w' → F w d v → F w' d v) (hm : P.follows .mixedOrders = true) (hB : splitB L k = true) (hpv : pivotB L k p free = true) (hd0 : (dstsOf (L.take k)).all (fun d => decide (d < s.length)) = true) (hC : CE w.drew)
    (hstep : StepsK (StepPh P (L.take k) CE CL R F s free) k L)
    (h : ∀ (x : Nat → Value) (w' : World), (∀ d, d ∈ dstsOf (L.take k) → F w' d (x d)) → CL w' → wpList P L.toArray Q (L.drop k) ⟨(fill s (dstsOf (L.take k)) x).toArray, df⟩ w') : (Code.region id L.toArray true).wp P Q ⟨s.toArray, df⟩ w := by
  have hd0' : ∀ d ∈ dstsOf (L.take k), d < s.toArray.size := fun d hd => by
    have := List.all_eq_true.1 hd0 d hd
    simpa using this
  refine wp_region_any hm ?_
  refine pivot_wpAny (P := P) (CE := CE) (CL := CL) (R := R) (F := F) (s0 := s.toArray) (df := df) rfl hpv hB hd0' hmono (fun i o hik hi => hstep.get hik hi) (fun a w' hC hdf hsz hrest hF => ?_) _ _ _ _ ?_ (fun i _ hi => ?_) (by simp) (fun i o _ hl => ?_) ⟨by unfold Ph; rw [if_neg (fun h => rep_false h)]; exact hC, rfl, rfl, fun _ _ => rfl, fun j o d _ hl => ?_⟩
  · have e : a = ⟨(fill s (dstsOf (L.take k)) fun d => a.tmps.getD d undef).toArray, df⟩ := by
      obtain ⟨t, dd⟩ := a
      simp only at hdf hsz hrest hF ⊢
      subst hdf
      congr 1
      have hsz' : t.toList.length = s.length := by simpa using hsz
      have hl : t.toList = fill s (dstsOf (L.take k)) fun d => t.getD d undef := by
        apply List.ext_getElem?
        intro i
        by_cases hi : i < s.length
        · rw [fill_get _ _ _ i hi]
          have ht : i < t.size := by rw [hsz]; simpa using hi
          have hg : t.getD i undef = t[i] := by simp [ht]
          by_cases hm : i ∈ dstsOf (L.take k)
          · rw [if_pos hm, hg]; simp [ht]
          · rw [if_neg hm]
            have := hrest i hm
            rw [hg] at this
            simp [ht, this, hi]
        · rw [List.getElem?_eq_none (by omega), List.getElem?_eq_none (by rw [fill_length]; omega)]
      rw [← hl]
    have h1 := h (fun d => a.tmps.getD d undef) w' hF hC
    rw [← e] at h1
    exact h1
  · have hle : ∀ (b : Array Bool) k, unl b k ≤ k := by
      intro b k
      induction k with
      | zero => simp [unl]
      | succ k ih => simp only [unl]; split <;> omega
    exact Nat.le_trans (hle _ _) (by simp)
  · simp [Array.getElem?_replicate, hi]
  · exact (rep_false hl).elim
  · exact (rep_false hl).elim
/-- One way for both phases. -/
theorem step_ph {l : List Oper} {s : List Value} {free : List Nat} {o : Oper} {d : Nat} (hd : o.dst = some d) (h : StepOk P l CE R F s o) (h' : free.contains d = true → StepOk P l CL R F s o) : StepPh P l CE CL R F s free o := by
  unfold StepPh; rw [hd]; exact ⟨h, h'⟩
theorem step_pv {l : List Oper} {s : List Value} {free : List Nat} {o : Oper} (hd : o.dst = none) (h : ∀ (ev : Operand → Value) (w : World), CE w → Known l F s o w ev → Good P CL R F o w ((execOp ev o).run P w)) : StepPh P l CE CL R F s free o := by
  unfold StepPh; rw [hd]
  exact fun a w hC hG => h a.eval w hC ⟨hG, fun _ => rfl, fun _ => rfl⟩
end
end Go.Proofs.YtokdpmpgonafmaaGreat
