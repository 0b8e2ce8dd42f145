import Derived.Test.YtdnnjahdcabdmaaGreatDoorMD34
import Derived.Test.YtdnnjahdcabdmaaGreatDoorMD33
import Derived.Test.YtdnnjahdcabdmaaGreatDoorMD22
/- Appends that write into a row in place or make a new one: what of the memory they leave alone. Plain laws; no statement is proved here. -/
namespace Go.Proofs.YtdnnjahdcabdmaaGreatDoor
open Go.ChangeShapes Go.WideShapes Go.ChangeAt Go.RowKit
set_option linter.unusedVariables false
set_option linter.unusedSimpArgs false

/-- The row C with the values news from p on. -/
def over_ (C : Array Value) (p : Nat) (news : List Value) : Array Value := (C.toList.take p ++ news ++ C.toList.drop (p + news.length)).toArray
theorem over_size {C : Array Value} {p : Nat} {news : List Value} (h : p + news.length ≤ C.size) : (over_ C p news).size = C.size := by
  unfold over_; simp; omega
theorem over_take {C : Array Value} {p : Nat} {news : List Value} (h : p + news.length ≤ C.size) (k : Nat) (hk : k ≤ p) : (over_ C p news).toList.take k = C.toList.take k := by
  unfold over_
  rw [List.toList_toArray, List.append_assoc, List.take_append_of_le_length (by simp; omega), List.take_take, Nat.min_eq_left hk]
theorem over_new {C : Array Value} {p : Nat} {news : List Value} (h : p + news.length ≤ C.size) : (over_ C p news).toList.take (p + news.length) = C.toList.take p ++ news := by
  unfold over_
  rw [List.toList_toArray, List.take_append_of_le_length (by simp; omega)]
  exact List.take_of_length_le (by simp; omega)
/-- Block g has news from p on; else it is as it was. -/
def PutAt (w w' : World) (g p : Nat) (news : List Value) : Prop := ∃ C t, w.heap[g]? = some (.cells C t (0, 0)) ∧ p + news.length ≤ C.size ∧ w'.heap[g]? = some (.cells (over_ C p news) t (0, 0))
theorem PutAt.old {w w' : World} {g p : Nat} {news : List Value} (h : PutAt w w' g p news) {e : TypeId} {s n : Nat} {v : Value} {xs : List Value} (ho : Own w g e s v n xs) (hp : n * s ≤ p) : Own w' g e s v n xs := by
  obtain ⟨C, t, h1, h2, h3⟩ := h
  obtain ⟨hx, cap, cur, rfl, hb, q1, q2, q3, q4⟩ := ho
  have hb' : w.heap[g]? = some (.cells cur e (0, 0)) := hb
  rw [hb'] at h1
  injection h1 with h1; injection h1 with h1 ht
  subst h1; subst ht
  exact ⟨hx, cap, over_ cur p news, rfl, h3, q1, q2, by rw [over_size h2, q3], by rw [over_take h2 _ hp, q4]⟩
theorem PutAt.again {w w' : World} {g p : Nat} {news : List Value} (h : PutAt w w' g p news) {e : TypeId} {s n : Nat} {v : Value} {xs : List Value} (ho : Own w g e s v n (xs ++ news)) (hp : xs.length = p) : Own w' g e s v n (xs ++ news) := by
  obtain ⟨C, t, h1, h2, h3⟩ := h
  obtain ⟨hx, cap, cur, rfl, hb, q1, q2, q3, q4⟩ := ho
  have hb' : w.heap[g]? = some (.cells cur e (0, 0)) := hb
  rw [hb'] at h1
  injection h1 with h1; injection h1 with h1 ht
  subst h1; subst ht
  have hns : n * s = p + news.length := by rw [← hx, List.length_append, hp]
  refine ⟨hx, cap, over_ cur p news, rfl, h3, q1, q2, by rw [over_size h2, q3], ?_⟩
  rw [hns, over_new h2]
  have h5 : cur.toList.take p = xs := by
    rw [hns] at q4
    have := congrArg (List.take p) q4
    rw [List.take_take, Nat.min_eq_left (by omega), List.take_append_of_le_length (by omega), ← hp, List.take_length] at this
    rw [← hp]; exact this
  rw [h5]
/-- An append onto an own row: a new row, or the old one written in place. -/
theorem run_app2 {P : Program} {w : World} {t ty e : TypeId} {s bytes : Nat} (hE : ElemTy P t e s bytes) {g n cap : Nat} {xs : List Value} (hown : Own w g e s (.slice (some ⟨g, 0, none⟩) n cap) n xs)
    {ad : Addr} {m c : Nat} {news : List Value} (hl : news.length = m * s) (hnews : ∀ j u, news[j]? = some u → w.cell? (ad.add j) = some u) (h1 : ∀ u ∈ news, u.oneCell' = true) (h63 : n + m ≤ maxLen) (hbytes : (n + m) * bytes ≤ 140737488355328) :
    ∃ g' cap' w', (Builtin.append_ #[t, t] ty #[.slice (some ⟨g, 0, none⟩) n cap, .slice (some ad) m c]).run P w = .ok (.slice (some ⟨g', 0, none⟩) (n + m) cap') w' ∧ Own w' g' e s (.slice (some ⟨g', 0, none⟩) (n + m) cap') (n + m) (xs ++ news) ∧
      w.grownBy w' (some g) ∧ ((g' = w.heap.size ∧ Below w.heap.size w w') ∨ (g' = g ∧ PutAt w w' g (n * s) news)) := by
  by_cases hroom : n + m ≤ cap
  · obtain ⟨ht, i, z, hi, hz, hsize, hby, hzs⟩ := hE
    obtain ⟨hx, cap2, cur, hv, hb, q1, q2, q3, q4⟩ := hown
    have e2 : cap = cap2 := by injection hv
    subst e2
    have hfit : n * s + news.length ≤ cur.size := by rw [hl, q3, ← Nat.add_mul]; exact Nat.mul_le_mul_right _ hroom
    have hr := run_append_room (P := P) w t ty e i ht hi g n cap cur hb ad m c news (by rw [hsize]; exact hl) hnews h1 hroom (by rw [hsize]; exact hfit)
    rw [hsize] at hr
    have hp : PutAt w (w.setRow g (over_ cur (n * s) news)) g (n * s) news := ⟨cur, e, hb, hfit, hb.setRow _⟩
    refine ⟨g, cap, w.setRow g (over_ cur (n * s) news), hr, ⟨by rw [List.length_append, hx, hl, Nat.add_mul], cap, _, rfl, hb.setRow _, hroom, q2, by rw [over_size hfit, q3], ?_⟩, ⟨rfl, rfl, rfl, by simp, fun j hj hne => setRow_other w g j _ (fun e => hne (by rw [e]))⟩, .inr ⟨rfl, hp⟩⟩
    rw [Nat.add_mul, ← hl, over_new hfit, q4]
  · obtain ⟨cap', w', hr, h2, h3⟩ := run_grow (P := P) (w := w) (ty := ty) (b := ⟨g, 0, none⟩) (n := n) (cap := cap) (c := c) (olds := xs) (ad := ad) hE hown.1 hown.at hl hnews (by omega) h63 hbytes
    exact ⟨_, cap', w', hr, h2, ⟨h3.os, h3.tape, h3.output, h3.size, fun b hb _ => h3.block b hb⟩, .inl ⟨rfl, h3⟩⟩
/-- Two rows may have been written in place; all else is as it was. -/
structure Two (go po : Nat) (lo : List Value) (gb pb : Nat) (lb : List Value) (w w' : World) : Prop where
  os : w'.os = w.os
  tape : w'.tape = w.tape
  output : w'.output = w.output
  size : w.heap.size ≤ w'.heap.size
  block : ∀ b, b < w.heap.size → w'.heap[b]? = w.heap[b]? ∨ (b = go ∧ PutAt w w' go po lo) ∨ (b = gb ∧ PutAt w w' gb pb lb)
section
variable {go po gb pb : Nat} {lo lb : List Value} {w w' : World}
theorem Two.of_below (h : Below w.heap.size w w') : Two go po lo gb pb lb w w' := ⟨h.os, h.tape, h.output, h.size, fun b hb => .inl (h.block b hb)⟩
theorem Two.refl : Two go po lo gb pb lb w w := Two.of_below (Below.refl _ _)
theorem Two.left (h : w.grownBy w' (some go)) (hp : PutAt w w' go po lo) : Two go po lo gb pb lb w w' := ⟨h.os, h.tape, h.output, h.size, fun b hb => by
  by_cases e : b = go
  · exact .inr (.inl ⟨e, hp⟩)
  · exact .inl (h.block b hb (fun e2 => e (Option.some.inj e2)))⟩
theorem Two.right (h : w.grownBy w' (some gb)) (hp : PutAt w w' gb pb lb) : Two go po lo gb pb lb w w' := ⟨h.os, h.tape, h.output, h.size, fun b hb => by
  by_cases e : b = gb
  · exact .inr (.inr ⟨e, hp⟩)
  · exact .inl (h.block b hb (fun e2 => e (Option.some.inj e2)))⟩
theorem Two.blk (h : Two go po lo gb pb lb w w') {b : Nat} {C : Array Value} {t : TypeId} (hb : Blk w b C t) (h1 : b ≠ go) (h2 : b ≠ gb) : Blk w' b C t := by
  rcases h.block b hb.lt with e | ⟨e, _⟩ | ⟨e, _⟩
  · exact e.trans hb
  · exact absurd e h1
  · exact absurd e h2
theorem Two.own (h : Two go po lo gb pb lb w w') {b : Nat} {e : TypeId} {s n : Nat} {v : Value} {xs : List Value} (ho : Own w b e s v n xs) (h1 : b = go → n * s ≤ po ∨ ∃ ys, xs = ys ++ lo ∧ ys.length = po) (h2 : b = gb → n * s ≤ pb ∨ ∃ ys, xs = ys ++ lb ∧ ys.length = pb) : Own w' b e s v n xs := by
  rcases h.block b ho.lt with e' | ⟨e', hp⟩ | ⟨e', hp⟩
  · exact ho.move e'
  · subst e'
    rcases h1 rfl with h1 | ⟨ys, rfl, h3⟩
    · exact hp.old ho h1
    · exact hp.again ho h3
  · subst e'
    rcases h2 rfl with h2 | ⟨ys, rfl, h3⟩
    · exact hp.old ho h2
    · exact hp.again ho h3
theorem Two.below (h : Two go po lo gb pb lb w w') {B : Nat} {a : World} (hb : Below B a w) (h1 : B ≤ go) (h2 : B ≤ gb) (hB : B ≤ w.heap.size) : Below B a w' :=
  hb.trans ⟨h.os, h.tape, h.output, h.size, fun k hk => by
    rcases h.block k (by omega) with e | ⟨e, _⟩ | ⟨e, _⟩
    · exact e
    · omega
    · omega⟩
end
/-- A store into one cell of a block: the world behind it by what it holds. -/
theorem wpList_store_cell {P : Program} {ops : Array Oper} {rest : List Oper} {o : Oper} {a : Act} {Q : Exit → Act → World → Prop} {w : World} {ty t : TypeId} {x y : Operand} {b f : Nat} {v : Value} {C : Array Value} (hgd : o.guard = none) (ho : o.op = .store ty x y) (hx : a.eval x = .pointer (some ⟨b, f, none⟩)) (hy : a.eval y = v) (hi : (P.info? ty).map (·.size) = some 1) (hv : v.cells = #[v]) (h1 : v.oneCell' = true) (hb : Blk w b C t) (hf : f < C.size)
    (h : ∀ W, Blk W b (C.setIfInBounds f v) t → w.grownBy W (some b) → wpList P ops Q rest (a.put o.dst undef) W) : wpList P ops Q (o :: rest) a w :=
  wpList_plain hgd fun K hK => by
    have hst := run_storeCells_at P b f t [v] 0 C w hb (by simp; omega) (by simpa using h1)
    unfold Oper.wp execOp
    cases hq : P.info? ty with
    | none => simp [hq] at hi
    | some i =>
      have hsz : i.size = 1 := by simpa [hq] using hi
      simp only [ho, hx, hy, Instr.storeAt, Instr.sureAddr, Sem.run_bind, Sem.run_pure, Result.andThen_ok]
      obtain ⟨W, hW, hB, hG⟩ : ∃ W, (storeVar ty ⟨b, f, none⟩ v).run P w = .ok () W ∧ Blk W b (C.setIfInBounds f v) t ∧ w.grownBy W (some b) := by
        refine ⟨w.setRow b (splice C f #[v]), ?_, ?_, ?_⟩
        · have hst' : (storeCells ⟨b, f, none⟩ [v] 0).run P w = .ok () (w.setRow b (splice C f #[v])) := by simpa [splice] using hst
          simp [storeVar, sizeOf, typeInfo, hq, hv, hsz, hst']
        · have := hb.setRow (splice C f #[v])
          have e : splice C f #[v] = C.setIfInBounds f v := by
            unfold splice
            apply Array.ext'
            simp only [Array.toList_setIfInBounds]
            rw [List.set_eq_take_append_cons_drop, if_pos (by simpa using hf)]
            simp
          rw [e] at this ⊢
          exact this
        · exact ⟨rfl, rfl, rfl, by simp, fun j hj hne => setRow_other w b j _ (fun e => hne (by rw [e]))⟩
      rw [hW]
      exact hK _ _ (h W hB hG)
theorem own_ne {w : World} {b g : Nat} {C : Array Value} {t e : TypeId} {s n : Nat} {v : Value} {xs : List Value} (hb : Blk w b C t) (ho : Own w g e s v n xs) (h : t ≠ e) : b ≠ g := by
  intro e1
  subst e1
  obtain ⟨_, cap, cur, _, hb2, _⟩ := ho
  have h1 : w.heap[b]? = some (.cells C t (0, 0)) := hb
  have h2 : w.heap[b]? = some (.cells cur e (0, 0)) := hb2
  rw [h1] at h2
  injection h2 with h2; injection h2 with _ h2
  exact h h2
theorem own_ne2 {w : World} {b g : Nat} {t e : TypeId} {s s' n n' : Nat} {v v' : Value} {xs xs' : List Value} (hb : Own w b t s' v' n' xs') (ho : Own w g e s v n xs) (h : t ≠ e) : b ≠ g := by
  obtain ⟨_, cap, cur, _, hb2, _⟩ := hb
  exact own_ne hb2 ho h
end Go.Proofs.YtdnnjahdcabdmaaGreatDoor
/- A permit drawn (l07PermitDrawn). -/
namespace Go.Proofs.YtdnnjahdcabdmaaGreatDoor
open Go.ChangeShapes Go.WideShapes Go.ChangeAt Go.RowKit
set_option linter.unusedVariables false
set_option linter.unusedSimpArgs false
attribute [local irreducible] Calls
/-- What l07PermitDrawn gives. -/
def GaveP (w : World) (b k : Nat) (g : Gr) (e : Ending) (w' : World) : Prop := ∃ p : Pm, p.ok ∧ badPG g p = false ∧ e = .returned (.agg p.cells) ∧ Src w' b k ∧ w.grownBy w' (some b)
theorem szI8 : (Tryz.prog.info? 24).map (·.size) = some 1 := by kernel_rfl
theorem szI16 : (Tryz.prog.info? 57).map (·.size) = some 1 := by kernel_rfl
set_option maxRecDepth 100000 in
set_option maxHeartbeats 1000000 in
theorem l07PermitDrawn_any (b o k : Nat) (g : Gr) (v : Value) (hW : 1 ≤ g.wide ∧ g.wide ≤ 4) (hH : 1 ≤ g.high ∧ g.high ≤ 4) (hk : k < 900000) (w : World) (hs : Src w b k) (hO : Blk w o (ofc g v) 33) (hbo : b ≠ o) :
    Calls Tryz.prog 45 #[.pointer (some ⟨b, 0, none⟩), .pointer (some ⟨o, 0, none⟩)] w (GaveP w b (k + 8) g) := by
  have hp := fun (n : Int) (j : Nat) (h1 : 1 ≤ n) (h2 : n ≤ 1099511627776) (hj : j < 910000) (w' : World) (hs : Src w' b j) => pick_any b j n (by omega) h1 h2 w' hs
  have lb := hs.lt
  have lo := hO.lt
  go_enter Tryz.func45, Tryz.ntmps45
  go_upto_region 1 with fail
  have hb4 : Blk (w.alloc (.cells #[.int .i8 0, .int .i8 0, .int .i16 0] 59)) w.heap.size #[.int .i8 0, .int .i8 0, .int .i16 0] 59 := Blk.new _ _ _
  have hg1 : w.grownBy (w.alloc (.cells #[.int .i8 0, .int .i8 0, .int .i16 0] 59)) (some b) := World.grownBy_alloc _ _ _
  have hs1 : Src (w.alloc (.cells #[.int .i8 0, .int .i8 0, .int .i16 0] 59)) b k := hs.move fun r hr => heap_alloc_old w _ (by omega)
  generalize w.alloc (.cells #[.int .i8 0, .int .i8 0, .int .i16 0] 59) = W at *
  have hO1 := hO.grown hg1 (fun e => by injection e; omega)
  go_upto_region 2 with (go_at_call 44; refine (hp 4 k (by decide) (by decide) (by omega) _ hs1).mono ?_; rintro e w1 ⟨x, ⟨x0, x1⟩, rfl, hs2, hg2⟩)
  have e1 := hg1.size
  have e2 := hg2.size
  have hb5 := Blk.new w1 #[.int .i8 x, .int .i8 0, .int .i16 0] 59
  have hs3 : Src (w1.alloc (.cells #[.int .i8 x, .int .i8 0, .int .i16 0] 59)) b (k + 2) := hs2.move fun r hr => heap_alloc_old w1 _ (by omega)
  have hg3 : w.grownBy (w1.alloc (.cells #[.int .i8 x, .int .i8 0, .int .i16 0] 59)) (some b) := (hg1.trans hg2).trans (World.grownBy_alloc _ _ _)
  have hb4' := (hb4.grown hg2 (fun e => by injection e; omega)).alloc (.cells #[.int .i8 x, .int .i8 0, .int .i16 0] 59)
  have hO2 := (hO1.grown hg2 (fun e => by injection e; exact hbo (by assumption))).alloc (.cells #[.int .i8 x, .int .i8 0, .int .i16 0] 59)
  have lq : w.heap.size < w1.heap.size := by have := hb4.lt; omega
  clear hs1 hs2 hg1 hg2 hb4 hO1 hO
  generalize w1.alloc (.cells #[.int .i8 x, .int .i8 0, .int .i16 0] 59) = W2 at *
  generalize w1.heap.size = q5 at *
  have cW : ∀ w', W2.grownBy w' (some b) → w'.cell? ⟨o, 0, none⟩ = some (.int .i8 g.wide) := fun w' h => ((hO2.grown h (fun e => by injection e; exact hbo (by assumption))).cell 0).trans ((ofc_get g v 0 (by omega)).trans rfl)
  have cH : ∀ w', W2.grownBy w' (some b) → w'.cell? ⟨o, 1, none⟩ = some (.int .i8 g.high) := fun w' h => ((hO2.grown h (fun e => by injection e; exact hbo (by assumption))).cell 1).trans ((ofc_get g v 1 (by omega)).trans rfl)
  refine wp_phaseK 20 [7, 15] (fun n w' => Src w' b (k + 2 + 2 * n) ∧ W2.grownBy w' (some b)) (fun w w' => w.grownBy w' (some b)) (fun _ d v => match d, v with
    | 10, v => v = .pointer (some ⟨b, 0, none⟩)
    | 11, v => v = .pointer (some ⟨o, 0, none⟩)
    | 12, v => v = .pointer (some ⟨o, 0, none⟩)
    | 13, v => v = .pointer (some ⟨o, 0, none⟩)
    | 14, v => v = .pointer (some ⟨o, 0, none⟩)
    | 15, v => v = .int .i8 g.wide
    | 16, v => v = .int .i64 g.wide
    | 17, v => ∃ y : Int, v = .int .i64 y ∧ 0 ≤ y ∧ y < g.wide
    | 18, v => v = .pointer (some ⟨b, 0, none⟩)
    | 19, v => v = .pointer (some ⟨o, 0, none⟩)
    | 20, v => v = .pointer (some ⟨o, 0, none⟩)
    | 21, v => v = .pointer (some ⟨o, 0, none⟩)
    | 22, v => v = .pointer (some ⟨o, 1, none⟩)
    | 23, v => v = .int .i8 g.high
    | 24, v => v = .int .i64 g.high
    | 25, v => ∃ y : Int, v = .int .i64 y ∧ 0 ≤ y ∧ y < g.high
    | 26, v => ∃ y : Int, v = .int .i64 (8 * y) ∧ 0 ≤ y ∧ y < g.high
    | 27, v => ∃ y z : Int, v = .int .i64 (y + 8 * z) ∧ (0 ≤ y ∧ y < g.wide) ∧ 0 ≤ z ∧ z < g.high
    | 28, v => ∃ y z : Int, v = .int .i8 (y + 8 * z) ∧ (0 ≤ y ∧ y < g.wide) ∧ 0 ≤ z ∧ z < g.high
    | 29, v => v = .pointer (some ⟨q5, 1, none⟩)
    | _, _ => True) (fun w w' d v h hF => hF) (by kernel_rfl) (by kernel_rfl) ⟨by decide, by decide⟩ (by kernel_rfl) ⟨hs3.move fun _ _ => rfl, grown_drewN _ 1 _⟩ ?_ ?_
  · refine ⟨step_at rfl fun n hn => step_go rfl fun ev w1 hC kn => ?_, ?_⟩
    · have e1 : ev (.tmp 0) = .pointer (some ⟨b, 0, none⟩) := kn.out 0 rfl rfl rfl
      exact good_of (v := .pointer (some ⟨b, 0, none⟩)) rfl (by simp [execOp, e1, go_sem]) hC (World.grownBy.refl _ _) rfl
    refine ⟨step_at rfl fun n hn => step_go rfl fun ev w1 hC kn => ?_, ?_⟩
    · have e1 : ev (.tmp 1) = .pointer (some ⟨o, 0, none⟩) := kn.out 1 rfl rfl rfl
      exact good_of (v := .pointer (some ⟨o, 0, none⟩)) rfl (by simp [execOp, e1, go_sem]) hC (World.grownBy.refl _ _) rfl
    refine ⟨step_at rfl fun n hn => step_go rfl fun ev w1 hC kn => ?_, ?_⟩
    · have e1 : ev (.tmp 11) = .pointer (some ⟨o, 0, none⟩) := kn.inn 11 rfl rfl
      exact good_of (v := .pointer (some ⟨o, 0, none⟩)) rfl (by simp only [execOp, e1]; rfl) hC (World.grownBy.refl _ _) rfl
    refine ⟨step_at rfl fun n hn => step_go rfl fun ev w1 hC kn => ?_, ?_⟩
    · have e1 : ev (.tmp 12) = .pointer (some ⟨o, 0, none⟩) := kn.inn 12 rfl rfl
      exact good_of (v := .pointer (some ⟨o, 0, none⟩)) rfl (by simp only [execOp, e1]; rfl) hC (World.grownBy.refl _ _) rfl
    refine ⟨step_at rfl fun n hn => step_go rfl fun ev w1 hC kn => ?_, ?_⟩
    · have e1 : ev (.tmp 13) = .pointer (some ⟨o, 0, none⟩) := kn.inn 13 rfl rfl
      exact good_of (v := .pointer (some ⟨o, 0, none⟩)) rfl (by simp only [execOp, e1]; rfl) hC (World.grownBy.refl _ _) rfl
    refine ⟨step_at rfl fun n hn => step_go rfl fun ev w1 hC kn => ?_, ?_⟩
    · have e1 : ev (.tmp 14) = .pointer (some ⟨o, 0, none⟩) := kn.inn 14 rfl rfl
      have c1 := cW w1 hC.2
      exact good_of (v := .int .i8 g.wide) rfl (by simp [execOp, e1, go_sem, c1]) hC (World.grownBy.refl _ _) rfl
    refine ⟨step_at rfl fun n hn => step_go rfl fun ev w1 hC kn => ?_, ?_⟩
    · have e1 : ev (.tmp 15) = .int .i8 g.wide := kn.inn 15 rfl rfl
      have hw8 : IntKind.i64.wrap g.wide = g.wide := by rw [IntKind.wrap_i64]; omega
      exact good_of (v := .int .i64 g.wide) rfl (by simp [execOp, e1, go_sem, hw8]) hC (World.grownBy.refl _ _) rfl
    refine ⟨step_call rfl fun n hn => step_to rfl fun ev w1 hC kn => ?_, ?_⟩
    · have e1 : ev (.tmp 10) = .pointer (some ⟨b, 0, none⟩) := kn.inn 10 rfl rfl
      have e2 : ev (.tmp 16) = .int .i64 g.wide := kn.inn 16 rfl rfl
      have hn2 : n < 2 := hn
      exact good_call (f := 44) (args := #[.pointer (some ⟨b, 0, none⟩), .int .i64 g.wide]) rfl (by simp [execOp, e1, e2, kn.fn, go_sem]) ((hp g.wide (k + 2 + 2 * n) (by omega) (by omega) (by omega) w1 hC.1).mono fun e w2 ⟨y, ⟨y0, y1⟩, he, h1, h2⟩ => ⟨_, he, ⟨h1, hC.2.trans h2⟩, h2, ⟨y, rfl, y0, y1⟩⟩)
    refine ⟨step_at rfl fun n hn => step_go rfl fun ev w1 hC kn => ?_, ?_⟩
    · have e1 : ev (.tmp 0) = .pointer (some ⟨b, 0, none⟩) := kn.out 0 rfl rfl rfl
      exact good_of (v := .pointer (some ⟨b, 0, none⟩)) rfl (by simp [execOp, e1, go_sem]) hC (World.grownBy.refl _ _) rfl
    refine ⟨step_at rfl fun n hn => step_go rfl fun ev w1 hC kn => ?_, ?_⟩
    · have e1 : ev (.tmp 1) = .pointer (some ⟨o, 0, none⟩) := kn.out 1 rfl rfl rfl
      exact good_of (v := .pointer (some ⟨o, 0, none⟩)) rfl (by simp [execOp, e1, go_sem]) hC (World.grownBy.refl _ _) rfl
    refine ⟨step_at rfl fun n hn => step_go rfl fun ev w1 hC kn => ?_, ?_⟩
    · have e1 : ev (.tmp 19) = .pointer (some ⟨o, 0, none⟩) := kn.inn 19 rfl rfl
      exact good_of (v := .pointer (some ⟨o, 0, none⟩)) rfl (by simp only [execOp, e1]; rfl) hC (World.grownBy.refl _ _) rfl
    refine ⟨step_at rfl fun n hn => step_go rfl fun ev w1 hC kn => ?_, ?_⟩
    · have e1 : ev (.tmp 20) = .pointer (some ⟨o, 0, none⟩) := kn.inn 20 rfl rfl
      exact good_of (v := .pointer (some ⟨o, 0, none⟩)) rfl (by simp only [execOp, e1]; rfl) hC (World.grownBy.refl _ _) rfl
    refine ⟨step_at rfl fun n hn => step_go rfl fun ev w1 hC kn => ?_, ?_⟩
    · have e1 : ev (.tmp 21) = .pointer (some ⟨o, 0, none⟩) := kn.inn 21 rfl rfl
      exact good_of (v := .pointer (some ⟨o, 1, none⟩)) rfl (by simp only [execOp, e1]; rfl) hC (World.grownBy.refl _ _) rfl
    refine ⟨step_at rfl fun n hn => step_go rfl fun ev w1 hC kn => ?_, ?_⟩
    · have e1 : ev (.tmp 22) = .pointer (some ⟨o, 1, none⟩) := kn.inn 22 rfl rfl
      have c1 := cH w1 hC.2
      exact good_of (v := .int .i8 g.high) rfl (by simp [execOp, e1, go_sem, c1]) hC (World.grownBy.refl _ _) rfl
    refine ⟨step_at rfl fun n hn => step_go rfl fun ev w1 hC kn => ?_, ?_⟩
    · have e1 : ev (.tmp 23) = .int .i8 g.high := kn.inn 23 rfl rfl
      have hw8 : IntKind.i64.wrap g.high = g.high := by rw [IntKind.wrap_i64]; omega
      exact good_of (v := .int .i64 g.high) rfl (by simp [execOp, e1, go_sem, hw8]) hC (World.grownBy.refl _ _) rfl
    refine ⟨step_call rfl fun n hn => step_to rfl fun ev w1 hC kn => ?_, ?_⟩
    · have e1 : ev (.tmp 18) = .pointer (some ⟨b, 0, none⟩) := kn.inn 18 rfl rfl
      have e2 : ev (.tmp 24) = .int .i64 g.high := kn.inn 24 rfl rfl
      have hn2 : n < 2 := hn
      exact good_call (f := 44) (args := #[.pointer (some ⟨b, 0, none⟩), .int .i64 g.high]) rfl (by simp [execOp, e1, e2, kn.fn, go_sem]) ((hp g.high (k + 2 + 2 * n) (by omega) (by omega) (by omega) w1 hC.1).mono fun e w2 ⟨y, ⟨y0, y1⟩, he, h1, h2⟩ => ⟨_, he, ⟨h1, hC.2.trans h2⟩, h2, ⟨y, rfl, y0, y1⟩⟩)
    refine ⟨step_at rfl fun n hn => step_go rfl fun ev w1 hC kn => ?_, ?_⟩
    · obtain ⟨y, e1, y0, y1⟩ : ∃ y : Int, ev (.tmp 25) = .int .i64 y ∧ 0 ≤ y ∧ y < g.high := kn.inn 25 rfl rfl
      have hwz : IntKind.i64.wrap (8 * y) = 8 * y := by rw [IntKind.wrap_i64]; omega
      exact good_of (v := .int .i64 (8 * y)) rfl (by simp [execOp, e1, kn.con, go_sem, hwz]) hC (World.grownBy.refl _ _) ⟨y, rfl, y0, y1⟩
    refine ⟨step_at rfl fun n hn => step_go rfl fun ev w1 hC kn => ?_, ?_⟩
    · obtain ⟨y, e1, y0, y1⟩ : ∃ y : Int, ev (.tmp 17) = .int .i64 y ∧ 0 ≤ y ∧ y < g.wide := kn.inn 17 rfl rfl
      obtain ⟨z, e2, z0, z1⟩ : ∃ z : Int, ev (.tmp 26) = .int .i64 (8 * z) ∧ 0 ≤ z ∧ z < g.high := kn.inn 26 rfl rfl
      have hwz : IntKind.i64.wrap (y + 8 * z) = y + 8 * z := by rw [IntKind.wrap_i64]; omega
      exact good_of (v := .int .i64 (y + 8 * z)) rfl (by simp [execOp, e1, e2, go_sem, hwz]) hC (World.grownBy.refl _ _) ⟨y, z, rfl, ⟨y0, y1⟩, z0, z1⟩
    refine ⟨step_at rfl fun n hn => step_go rfl fun ev w1 hC kn => ?_, ?_⟩
    · obtain ⟨y, z, e1, ⟨y0, y1⟩, z0, z1⟩ : ∃ y z : Int, ev (.tmp 27) = .int .i64 (y + 8 * z) ∧ (0 ≤ y ∧ y < g.wide) ∧ 0 ≤ z ∧ z < g.high := kn.inn 27 rfl rfl
      have hwz : IntKind.i8.wrap (y + 8 * z) = y + 8 * z := by unfold IntKind.wrap; simp [IntKind.bits, IntKind.signed]; omega
      exact good_of (v := .int .i8 (y + 8 * z)) rfl (by simp [execOp, e1, go_sem, hwz]) hC (World.grownBy.refl _ _) ⟨y, z, rfl, ⟨y0, y1⟩, z0, z1⟩
    refine ⟨step_at rfl fun n hn => step_go rfl fun ev w1 hC kn => ?_, ?_⟩
    · have e1 : ev (.tmp 5) = .pointer (some ⟨q5, 0, none⟩) := kn.out 5 rfl rfl rfl
      exact good_of (v := .pointer (some ⟨q5, 1, none⟩)) rfl (by simp only [execOp, e1]; rfl) hC (World.grownBy.refl _ _) rfl
    exact trivial
  · rintro xv w1 hxv ⟨hs4, hg4⟩
    have y28 := hxv 28 (by decide)
    obtain ⟨y, z, y28, ⟨y0, y1⟩, z0, z1⟩ : ∃ y z : Int, xv 28 = .int .i8 (y + 8 * z) ∧ (0 ≤ y ∧ y < g.wide) ∧ 0 ≤ z ∧ z < g.high := y28
    have y29 : xv 29 = .pointer (some ⟨q5, 1, none⟩) := hxv 29 (by decide)
    simp only [fill, dstsOf, List.filterMap_cons, List.filterMap_nil, List.foldl_cons, List.foldl_nil, List.set_cons_succ, List.set_cons_zero, List.take_succ_cons, List.take_zero, List.drop_succ_cons, List.drop_zero, y28, y29]
    have hb5 := hb5.grown hg4 (fun e => by injection e; omega)
    go_upto_region 3 with (refine wpList_store_cell (v := .int .i8 (y + 8 * z)) rfl rfl rfl rfl szI8 rfl rfl hb5 (by simp) ?_; intro w3 hB3 hG3)
    have hB3 : Blk w3 q5 #[.int .i8 x, .int .i8 (y + 8 * z), .int .i16 0] 59 := hB3
    have l4 := hs4.lt
    have hs5 : Src w3 b (k + 2 + 2 * 2) := hs4.move fun r hr => hG3.block r (by omega) (fun e => by injection e; omega)
    go_upto_region 4 with (first | (go_at_call 44; refine (hp 60 _ (by decide) (by decide) (by omega) _ hs5).mono ?_; rintro e w5 ⟨r, ⟨r0, r1⟩, rfl, hs6, hg6⟩; have hB5 := hB3.grown hg6 (fun e => by injection e; omega)) | (refine wpList_store_cell (v := .int .i16 r) rfl rfl rfl rfl szI16 rfl rfl hB5 (by simp) ?_; intro w6 hB6 hG6))
    have hB6 : Blk w6 q5 #[.int .i8 x, .int .i8 (y + 8 * z), .int .i16 r] 59 := hB6
    have hb6 := (((hb4'.grown hg4 (fun e => by injection e; omega)).grown hG3 (fun e => by injection e; omega)).grown hg6 (fun e => by injection e; omega)).grown hG6 (fun e => by injection e; omega)
    have hs7 : Src w6 b (k + 2 + 2 * 2 + 2) := hs6.move fun r hr => hG6.block r (by have := hs6.lt; omega) (fun e => by injection e; omega)
    have hall : w.grownBy w6 (some b) := (((hg3.trans hg4).andThen hG3 (fun j e => by injection e; exact .inl (by omega))).trans hg6).andThen hG6 (fun j e => by injection e; exact .inl (by omega))
    have hcells : (⟨x, y + 8 * z, r⟩ : Pm).cells = #[.int .i8 x, .int .i8 (y + 8 * z), .int .i16 r] := Pm.cells_eq _
    have hpok : (⟨x, y + 8 * z, r⟩ : Pm).ok := ⟨⟨by show -128 ≤ x; omega, by show x ≤ 127; omega⟩, ⟨by show -128 ≤ y + 8 * z; omega, by show y + 8 * z ≤ 127; omega⟩, ⟨by show -32768 ≤ r; omega, by show r ≤ 32767; omega⟩⟩
    go_wp2_with (first | (refine wpList_load_blk rfl rfl rfl row99 hB6 rfl ?_) | (refine wpList_store_blk (C' := #[.int .i8 x, .int .i8 (y + 8 * z), .int .i16 r]) rfl rfl rfl rfl row99 hb6 rfl rfl (by intro q hq; simp at hq; rcases hq with rfl | rfl | rfl <;> rfl) ?_))
    refine bodyPost_row rfl rfl row99 (hb6.setRow _) rfl rfl ⟨⟨x, y + 8 * z, r⟩, hpok, ?_, by rw [hcells], hs7.move fun j hj => setRow_other w6 _ j _ (by omega), hall.andThen ⟨rfl, rfl, rfl, by simp, fun j hj hne => setRow_other w6 w.heap.size j _ (fun e => hne (by rw [e]))⟩ (fun j e => by injection e; exact .inl (by omega))⟩
    · obtain ⟨m, hm⟩ : ∃ m : Nat, (m : Int) = y + 8 * z := ⟨(y + 8 * z).toNat, by omega⟩
      unfold badPG badOwner badRate isCI isC
      rw [← hm]
      simp
      omega
end Go.Proofs.YtdnnjahdcabdmaaGreatDoor
