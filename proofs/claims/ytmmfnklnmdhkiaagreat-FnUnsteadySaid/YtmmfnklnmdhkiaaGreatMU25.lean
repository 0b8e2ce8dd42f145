import Derived.Test.YtmmfnklnmdhkiaaGreatMU24
/- Appends that write into a row in place or make a new one: what of the memory they leave alone. Plain laws; no statement is proved here. -/
namespace Go.Proofs.YtmmfnklnmdhkiaaGreat
open Go.ChangeShapes Go.WideShapes Go.ChangeAt Go.RowKit
set_option linter.unusedVariables false
set_option linter.unusedSimpArgs false

/-- The row C with the values news from p on. -/
def over_ (C : Array Value) (p : Nat) (news : List Value) : Array Value := (C.toList.take p ++ news ++ C.toList.drop (p + news.length)).toArray
theorem over_size {C : Array Value} {p : Nat} {news : List Value} (h : p + news.length ≤ C.size) : (over_ C p news).size = C.size := by
  unfold over_; simp; omega
theorem over_take {C : Array Value} {p : Nat} {news : List Value} (h : p + news.length ≤ C.size) (k : Nat) (hk : k ≤ p) : (over_ C p news).toList.take k = C.toList.take k := by
  unfold over_
  rw [List.toList_toArray, List.append_assoc, List.take_append_of_le_length (by simp; omega), List.take_take, Nat.min_eq_left hk]
theorem over_new {C : Array Value} {p : Nat} {news : List Value} (h : p + news.length ≤ C.size) : (over_ C p news).toList.take (p + news.length) = C.toList.take p ++ news := by
  unfold over_
  rw [List.toList_toArray, List.take_append_of_le_length (by simp; omega)]
  exact List.take_of_length_le (by simp; omega)
/-- Block g has news from p on; else it is as it was. -/
def PutAt (w w' : World) (g p : Nat) (news : List Value) : Prop := ∃ C t, w.heap[g]? = some (.cells C t (0, 0)) ∧ p + news.length ≤ C.size ∧ w'.heap[g]? = some (.cells (over_ C p news) t (0, 0))
theorem PutAt.old {w w' : World} {g p : Nat} {news : List Value} (h : PutAt w w' g p news) {e : TypeId} {s n : Nat} {v : Value} {xs : List Value} (ho : Own w g e s v n xs) (hp : n * s ≤ p) : Own w' g e s v n xs := by
  obtain ⟨C, t, h1, h2, h3⟩ := h
  obtain ⟨hx, cap, cur, rfl, hb, q1, q2, q3, q4⟩ := ho
  have hb' : w.heap[g]? = some (.cells cur e (0, 0)) := hb
  rw [hb'] at h1
  injection h1 with h1; injection h1 with h1 ht
  subst h1; subst ht
  exact ⟨hx, cap, over_ cur p news, rfl, h3, q1, q2, by rw [over_size h2, q3], by rw [over_take h2 _ hp, q4]⟩
theorem PutAt.again {w w' : World} {g p : Nat} {news : List Value} (h : PutAt w w' g p news) {e : TypeId} {s n : Nat} {v : Value} {xs : List Value} (ho : Own w g e s v n (xs ++ news)) (hp : xs.length = p) : Own w' g e s v n (xs ++ news) := by
  obtain ⟨C, t, h1, h2, h3⟩ := h
  obtain ⟨hx, cap, cur, rfl, hb, q1, q2, q3, q4⟩ := ho
  have hb' : w.heap[g]? = some (.cells cur e (0, 0)) := hb
  rw [hb'] at h1
  injection h1 with h1; injection h1 with h1 ht
  subst h1; subst ht
  have hns : n * s = p + news.length := by rw [← hx, List.length_append, hp]
  refine ⟨hx, cap, over_ cur p news, rfl, h3, q1, q2, by rw [over_size h2, q3], ?_⟩
  rw [hns, over_new h2]
  have h5 : cur.toList.take p = xs := by
    rw [hns] at q4
    have := congrArg (List.take p) q4
    rw [List.take_take, Nat.min_eq_left (by omega), List.take_append_of_le_length (by omega), ← hp, List.take_length] at this
    rw [← hp]; exact this
  rw [h5]
/-- An append onto an own row: a new row, or the old one written in place. -/
theorem run_app2 {P : Program} {w : World} {t ty e : TypeId} {s bytes : Nat} (hE : ElemTy P t e s bytes) {g n cap : Nat} {xs : List Value} (hown : Own w g e s (.slice (some ⟨g, 0, none⟩) n cap) n xs)
    {ad : Addr} {m c : Nat} {news : List Value} (hl : news.length = m * s) (hnews : ∀ j u, news[j]? = some u → w.cell? (ad.add j) = some u) (h1 : ∀ u ∈ news, u.oneCell' = true) (h63 : n + m ≤ maxLen) (hbytes : (n + m) * bytes ≤ 140737488355328) :
    ∃ g' cap' w', (Builtin.append_ #[t, t] ty #[.slice (some ⟨g, 0, none⟩) n cap, .slice (some ad) m c]).run P w = .ok (.slice (some ⟨g', 0, none⟩) (n + m) cap') w' ∧ Own w' g' e s (.slice (some ⟨g', 0, none⟩) (n + m) cap') (n + m) (xs ++ news) ∧
      w.grownBy w' (some g) ∧ ((g' = w.heap.size ∧ Below w.heap.size w w') ∨ (g' = g ∧ PutAt w w' g (n * s) news)) := by
  by_cases hroom : n + m ≤ cap
  · obtain ⟨ht, i, z, hi, hz, hsize, hby, hzs⟩ := hE
    obtain ⟨hx, cap2, cur, hv, hb, q1, q2, q3, q4⟩ := hown
    have e2 : cap = cap2 := by injection hv
    subst e2
    have hfit : n * s + news.length ≤ cur.size := by rw [hl, q3, ← Nat.add_mul]; exact Nat.mul_le_mul_right _ hroom
    have hr := run_append_room (P := P) w t ty e i ht hi g n cap cur hb ad m c news (by rw [hsize]; exact hl) hnews h1 hroom (by rw [hsize]; exact hfit)
    rw [hsize] at hr
    have hp : PutAt w (w.setRow g (over_ cur (n * s) news)) g (n * s) news := ⟨cur, e, hb, hfit, hb.setRow _⟩
    refine ⟨g, cap, w.setRow g (over_ cur (n * s) news), hr, ⟨by rw [List.length_append, hx, hl, Nat.add_mul], cap, _, rfl, hb.setRow _, hroom, q2, by rw [over_size hfit, q3], ?_⟩, ⟨rfl, rfl, rfl, by simp, fun j hj hne => setRow_other w g j _ (fun e => hne (by rw [e]))⟩, .inr ⟨rfl, hp⟩⟩
    rw [Nat.add_mul, ← hl, over_new hfit, q4]
  · obtain ⟨cap', w', hr, h2, h3⟩ := run_grow (P := P) (w := w) (ty := ty) (b := ⟨g, 0, none⟩) (n := n) (cap := cap) (c := c) (olds := xs) (ad := ad) hE hown.1 hown.at hl hnews (by omega) h63 hbytes
    exact ⟨_, cap', w', hr, h2, ⟨h3.os, h3.tape, h3.output, h3.size, fun b hb _ => h3.block b hb⟩, .inl ⟨rfl, h3⟩⟩
/-- Two rows may have been written in place; all else is as it was. -/
structure Two (go po : Nat) (lo : List Value) (gb pb : Nat) (lb : List Value) (w w' : World) : Prop where
  os : w'.os = w.os
  tape : w'.tape = w.tape
  output : w'.output = w.output
  size : w.heap.size ≤ w'.heap.size
  block : ∀ b, b < w.heap.size → w'.heap[b]? = w.heap[b]? ∨ (b = go ∧ PutAt w w' go po lo) ∨ (b = gb ∧ PutAt w w' gb pb lb)
section
variable {go po gb pb : Nat} {lo lb : List Value} {w w' : World}
theorem Two.of_below (h : Below w.heap.size w w') : Two go po lo gb pb lb w w' := ⟨h.os, h.tape, h.output, h.size, fun b hb => .inl (h.block b hb)⟩
theorem Two.refl : Two go po lo gb pb lb w w := Two.of_below (Below.refl _ _)
theorem Two.left (h : w.grownBy w' (some go)) (hp : PutAt w w' go po lo) : Two go po lo gb pb lb w w' := ⟨h.os, h.tape, h.output, h.size, fun b hb => by
  by_cases e : b = go
  · exact .inr (.inl ⟨e, hp⟩)
  · exact .inl (h.block b hb (fun e2 => e (Option.some.inj e2)))⟩
theorem Two.right (h : w.grownBy w' (some gb)) (hp : PutAt w w' gb pb lb) : Two go po lo gb pb lb w w' := ⟨h.os, h.tape, h.output, h.size, fun b hb => by
  by_cases e : b = gb
  · exact .inr (.inr ⟨e, hp⟩)
  · exact .inl (h.block b hb (fun e2 => e (Option.some.inj e2)))⟩
theorem Two.blk (h : Two go po lo gb pb lb w w') {b : Nat} {C : Array Value} {t : TypeId} (hb : Blk w b C t) (h1 : b ≠ go) (h2 : b ≠ gb) : Blk w' b C t := by
  rcases h.block b hb.lt with e | ⟨e, _⟩ | ⟨e, _⟩
  · exact e.trans hb
  · exact absurd e h1
  · exact absurd e h2
theorem Two.own (h : Two go po lo gb pb lb w w') {b : Nat} {e : TypeId} {s n : Nat} {v : Value} {xs : List Value} (ho : Own w b e s v n xs) (h1 : b = go → n * s ≤ po ∨ ∃ ys, xs = ys ++ lo ∧ ys.length = po) (h2 : b = gb → n * s ≤ pb ∨ ∃ ys, xs = ys ++ lb ∧ ys.length = pb) : Own w' b e s v n xs := by
  rcases h.block b ho.lt with e' | ⟨e', hp⟩ | ⟨e', hp⟩
  · exact ho.move e'
  · subst e'
    rcases h1 rfl with h1 | ⟨ys, rfl, h3⟩
    · exact hp.old ho h1
    · exact hp.again ho h3
  · subst e'
    rcases h2 rfl with h2 | ⟨ys, rfl, h3⟩
    · exact hp.old ho h2
    · exact hp.again ho h3
theorem Two.below (h : Two go po lo gb pb lb w w') {B : Nat} {a : World} (hb : Below B a w) (h1 : B ≤ go) (h2 : B ≤ gb) (hB : B ≤ w.heap.size) : Below B a w' :=
  hb.trans ⟨h.os, h.tape, h.output, h.size, fun k hk => by
    rcases h.block k (by omega) with e | ⟨e, _⟩ | ⟨e, _⟩
    · exact e
    · omega
    · omega⟩
end
/-- A store into one cell of a block: the world behind it by what it holds. -/
theorem wpList_store_cell {P : Program} {ops : Array Oper} {rest : List Oper} {o : Oper} {a : Act} {Q : Exit → Act → World → Prop} {w : World} {ty t : TypeId} {x y : Operand} {b f : Nat} {v : Value} {C : Array Value} (hgd : o.guard = none) (ho : o.op = .store ty x y) (hx : a.eval x = .pointer (some ⟨b, f, none⟩)) (hy : a.eval y = v) (hi : (P.info? ty).map (·.size) = some 1) (hv : v.cells = #[v]) (h1 : v.oneCell' = true) (hb : Blk w b C t) (hf : f < C.size)
    (h : ∀ W, Blk W b (C.setIfInBounds f v) t → w.grownBy W (some b) → wpList P ops Q rest (a.put o.dst undef) W) : wpList P ops Q (o :: rest) a w :=
  wpList_plain hgd fun K hK => by
    have hst := run_storeCells_at P b f t [v] 0 C w hb (by simp; omega) (by simpa using h1)
    unfold Oper.wp execOp
    cases hq : P.info? ty with
    | none => simp [hq] at hi
    | some i =>
      have hsz : i.size = 1 := by simpa [hq] using hi
      simp only [ho, hx, hy, Instr.storeAt, Instr.sureAddr, Sem.run_bind, Sem.run_pure, Result.andThen_ok]
      obtain ⟨W, hW, hB, hG⟩ : ∃ W, (storeVar ty ⟨b, f, none⟩ v).run P w = .ok () W ∧ Blk W b (C.setIfInBounds f v) t ∧ w.grownBy W (some b) := by
        refine ⟨w.setRow b (splice C f #[v]), ?_, ?_, ?_⟩
        · have hst' : (storeCells ⟨b, f, none⟩ [v] 0).run P w = .ok () (w.setRow b (splice C f #[v])) := by simpa [splice] using hst
          simp [storeVar, sizeOf, typeInfo, hq, hv, hsz, hst']
        · have := hb.setRow (splice C f #[v])
          have e : splice C f #[v] = C.setIfInBounds f v := by
            unfold splice
            apply Array.ext'
            simp only [Array.toList_setIfInBounds]
            rw [List.set_eq_take_append_cons_drop, if_pos (by simpa using hf)]
            simp
          rw [e] at this ⊢
          exact this
        · exact ⟨rfl, rfl, rfl, by simp, fun j hj hne => setRow_other w b j _ (fun e => hne (by rw [e]))⟩
      rw [hW]
      exact hK _ _ (h W hB hG)
theorem own_ne {w : World} {b g : Nat} {C : Array Value} {t e : TypeId} {s n : Nat} {v : Value} {xs : List Value} (hb : Blk w b C t) (ho : Own w g e s v n xs) (h : t ≠ e) : b ≠ g := by
  intro e1
  subst e1
  obtain ⟨_, cap, cur, _, hb2, _⟩ := ho
  have h1 : w.heap[b]? = some (.cells C t (0, 0)) := hb
  have h2 : w.heap[b]? = some (.cells cur e (0, 0)) := hb2
  rw [h1] at h2
  injection h2 with h2; injection h2 with _ h2
  exact h h2
theorem own_ne2 {w : World} {b g : Nat} {t e : TypeId} {s s' n n' : Nat} {v v' : Value} {xs xs' : List Value} (hb : Own w b t s' v' n' xs') (ho : Own w g e s v n xs) (h : t ≠ e) : b ≠ g := by
  obtain ⟨_, cap, cur, _, hb2, _⟩ := hb
  exact own_ne hb2 ho h
end Go.Proofs.YtmmfnklnmdhkiaaGreat
/- An append onto nil. A plain law; no statement is proved here. -/
namespace Go.Proofs.YtmmfnklnmdhkiaaGreat
open Go.ChangeShapes Go.WideShapes Go.ChangeAt Go.RowKit
set_option linter.unusedVariables false
theorem run_app_nil {P : Program} {w : World} {t ty e : TypeId} {s bytes : Nat} (hE : ElemTy P t e s bytes) (hs : 0 < s)
    {ad : Addr} {m c : Nat} {news : List Value} (hm : 0 < m) (hl : news.length = m * s) (hnews : ∀ j u, news[j]? = some u → w.cell? (ad.add j) = some u) (h1 : ∀ u ∈ news, u.oneCell' = true) (h63 : m ≤ maxLen) (hbytes : m * bytes ≤ 140737488355328) :
    ∃ g' cap' w', (Builtin.append_ #[t, t] ty #[.slice none 0 0, .slice (some ad) m c]).run P w = .ok (.slice (some ⟨g', 0, none⟩) m cap') w' ∧ Own w' g' e s (.slice (some ⟨g', 0, none⟩) m cap') m news ∧ Below w.heap.size w w' ∧ w.heap.size ≤ g' := by
  obtain ⟨ht, i, z, hi, hz, hsize, hby, hzs⟩ := hE
  have hrow : w.ownsRow w.heap.size e s (.slice none 0 0) 0 [] := ⟨by simp, .inl ⟨rfl, rfl⟩⟩
  obtain ⟨v', w', hr, h2, h3, h4⟩ := run_append_own (P := P) w w.heap.size t ty e i z s bytes ht hi hz hsize hby hzs hs (Value.slice none 0 0) 0 [] hrow ad m c news hl hnews h1 (by omega) (by rw [Nat.zero_add]; exact hbytes) (Nat.le_refl _)
  rw [Nat.zero_add, List.nil_append] at h2
  obtain ⟨hx, h5⟩ := h2
  rcases h5 with ⟨rfl, h6⟩ | ⟨g, cap, cur, rfl, hg, hb, q1, q2, q3, q4⟩
  · exfalso; omega
  · exact ⟨g, cap, w', hr, ⟨hx, cap, cur, rfl, hb, q1, q2, q3, q4⟩, ⟨h3.os, h3.tape, h3.output, h3.size, fun k hk => h3.block k hk (fun e => by cases e)⟩, hg⟩
end Go.Proofs.YtmmfnklnmdhkiaaGreat
