import Derived.Test.YtglimhkpndfjgaaMT19
import Derived.Test.YtglimhkpndfjgaaMT18
import Derived.Lib.SliceRun
import Derived.Laws.IdiomCopy
/- Tide steps one after the other, with what is seen behind each (tides), and TideRun. -/
namespace Go.Proofs.Ytglimhkpndfjgaa
open Go.ChangeShapes Go.WideShapes Go.ChangeAt Go.RowKit
set_option linter.unusedVariables false
set_option linter.unusedSimpArgs false
attribute [local irreducible] Calls
/-- The ground behind k tide steps, and the code. -/
def tidTo (g : Gr) (m a b part : Nat) : Nat → Gr × Int
  | 0 => (g, 0)
  | k + 1 => if (tidTo g m a b part k).2 = 0 then (tidR (tidTo g m a b part k).1 (headT m a b k) part, tidC (tidTo g m a b part k).1 (headT m a b k) part) else tidTo g m a b part k
theorem tidTo_go {g : Gr} {m a b part k : Nat} (h : (tidTo g m a b part k).2 = 0) : tidTo g m a b part (k + 1) = (tidR (tidTo g m a b part k).1 (headT m a b k) part, tidC (tidTo g m a b part k).1 (headT m a b k) part) := by
  show (if _ then _ else _) = _
  rw [if_pos h]
theorem tidTo_stay {g : Gr} {m a b part k : Nat} (h : (tidTo g m a b part k).2 ≠ 0) : ∀ n, k ≤ n → tidTo g m a b part n = tidTo g m a b part k
  | 0, hn => by obtain rfl : k = 0 := by omega
                rfl
  | n + 1, hn => by
    by_cases hk : k = n + 1
    · rw [hk]
    · have e := tidTo_stay h n (by omega)
      have e2 : tidTo g m a b part (n + 1) = if (tidTo g m a b part n).2 = 0 then (tidR (tidTo g m a b part n).1 (headT m a b n) part, tidC (tidTo g m a b part n).1 (headT m a b n) part) else tidTo g m a b part n := rfl
      rw [e2, e, if_neg h]
theorem tidR_zero {g : Gr} {H part : Nat} (h : tidC g H part = 0) : plain H = true ∧ stepIs (tidG g H) part = true ∧ tidR g H part = stepG (tidG g H) part := by
  unfold tidC at h
  unfold tidR
  cases hp : plain H
  · rw [hp] at h; cases h
  · rw [hp, if_pos rfl] at h
    rw [if_pos rfl]
    unfold stepC at h
    unfold stepR
    cases hs : stepIs (tidG g H) part
    · rw [hs] at h; cases h
    · exact ⟨rfl, rfl, rfl⟩
theorem tidR_tok {g : Gr} {m a b part H : Nat} (ho : TOk g m a b part) (h : tidC g H part = 0) : TOk (tidR g H part) m a b part := by
  obtain ⟨h1, h2, h3⟩ := tidR_zero h
  rw [h3]
  refine ⟨⟨ho.ok.wide, ho.ok.high, ho.ok.fix⟩, ?_, ho.pm, ho.pa, ho.pb, ho.pp⟩
  unfold stepIs at h2
  exact (Bool.and_eq_true_iff.1 h2).2
theorem tidTo_tok {g : Gr} {m a b part : Nat} (ho : TOk g m a b part) : ∀ k, (tidTo g m a b part k).2 = 0 → TOk (tidTo g m a b part k).1 m a b part
  | 0, _ => ho
  | k + 1, h => by
    by_cases hk : (tidTo g m a b part k).2 = 0
    · rw [tidTo_go hk] at h ⊢
      exact tidR_tok (tidTo_tok ho k hk) h
    · rw [tidTo_stay hk (k + 1) (by omega)] at h; exact absurd h hk
/-- What a run gives. -/
def runG (g : Gr) (m a b part n : Nat) : Gr := if (tidTo g m a b part n).2 = 0 then (tidTo g m a b part n).1 else zeroG
def runC (g : Gr) (m a b part n : Nat) : Int := (tidTo g m a b part n).2
theorem stp_in {n : Nat} (h : n ≤ 400) : isStp n = true := by unfold isStp; simp; omega
end Go.Proofs.Ytglimhkpndfjgaa
/- Appends that write into a row in place or make a new one: what of the memory they leave alone. Plain laws; no statement is proved here. -/
namespace Go.Proofs.Ytglimhkpndfjgaa
open Go.ChangeShapes Go.WideShapes Go.ChangeAt Go.RowKit
set_option linter.unusedVariables false
set_option linter.unusedSimpArgs false

/-- The row C with the values news from p on. -/
def over_ (C : Array Value) (p : Nat) (news : List Value) : Array Value := (C.toList.take p ++ news ++ C.toList.drop (p + news.length)).toArray
theorem over_size {C : Array Value} {p : Nat} {news : List Value} (h : p + news.length ≤ C.size) : (over_ C p news).size = C.size := by
  unfold over_; simp; omega
theorem over_take {C : Array Value} {p : Nat} {news : List Value} (h : p + news.length ≤ C.size) (k : Nat) (hk : k ≤ p) : (over_ C p news).toList.take k = C.toList.take k := by
  unfold over_
  rw [List.toList_toArray, List.append_assoc, List.take_append_of_le_length (by simp; omega), List.take_take, Nat.min_eq_left hk]
theorem over_new {C : Array Value} {p : Nat} {news : List Value} (h : p + news.length ≤ C.size) : (over_ C p news).toList.take (p + news.length) = C.toList.take p ++ news := by
  unfold over_
  rw [List.toList_toArray, List.take_append_of_le_length (by simp; omega)]
  exact List.take_of_length_le (by simp; omega)
/-- Block g has news from p on; else it is as it was. -/
def PutAt (w w' : World) (g p : Nat) (news : List Value) : Prop := ∃ C t, w.heap[g]? = some (.cells C t (0, 0)) ∧ p + news.length ≤ C.size ∧ w'.heap[g]? = some (.cells (over_ C p news) t (0, 0))
theorem PutAt.old {w w' : World} {g p : Nat} {news : List Value} (h : PutAt w w' g p news) {e : TypeId} {s n : Nat} {v : Value} {xs : List Value} (ho : Own w g e s v n xs) (hp : n * s ≤ p) : Own w' g e s v n xs := by
  obtain ⟨C, t, h1, h2, h3⟩ := h
  obtain ⟨hx, cap, cur, rfl, hb, q1, q2, q3, q4⟩ := ho
  have hb' : w.heap[g]? = some (.cells cur e (0, 0)) := hb
  rw [hb'] at h1
  injection h1 with h1; injection h1 with h1 ht
  subst h1; subst ht
  exact ⟨hx, cap, over_ cur p news, rfl, h3, q1, q2, by rw [over_size h2, q3], by rw [over_take h2 _ hp, q4]⟩
theorem PutAt.again {w w' : World} {g p : Nat} {news : List Value} (h : PutAt w w' g p news) {e : TypeId} {s n : Nat} {v : Value} {xs : List Value} (ho : Own w g e s v n (xs ++ news)) (hp : xs.length = p) : Own w' g e s v n (xs ++ news) := by
  obtain ⟨C, t, h1, h2, h3⟩ := h
  obtain ⟨hx, cap, cur, rfl, hb, q1, q2, q3, q4⟩ := ho
  have hb' : w.heap[g]? = some (.cells cur e (0, 0)) := hb
  rw [hb'] at h1
  injection h1 with h1; injection h1 with h1 ht
  subst h1; subst ht
  have hns : n * s = p + news.length := by rw [← hx, List.length_append, hp]
  refine ⟨hx, cap, over_ cur p news, rfl, h3, q1, q2, by rw [over_size h2, q3], ?_⟩
  rw [hns, over_new h2]
  have h5 : cur.toList.take p = xs := by
    rw [hns] at q4
    have := congrArg (List.take p) q4
    rw [List.take_take, Nat.min_eq_left (by omega), List.take_append_of_le_length (by omega), ← hp, List.take_length] at this
    rw [← hp]; exact this
  rw [h5]
/-- An append onto an own row: a new row, or the old one written in place. -/
theorem run_app2 {P : Program} {w : World} {t ty e : TypeId} {s bytes : Nat} (hE : ElemTy P t e s bytes) {g n cap : Nat} {xs : List Value} (hown : Own w g e s (.slice (some ⟨g, 0, none⟩) n cap) n xs)
    {ad : Addr} {m c : Nat} {news : List Value} (hl : news.length = m * s) (hnews : ∀ j u, news[j]? = some u → w.cell? (ad.add j) = some u) (h1 : ∀ u ∈ news, u.oneCell' = true) (h63 : n + m ≤ maxLen) (hbytes : (n + m) * bytes ≤ 140737488355328) :
    ∃ g' cap' w', (Builtin.append_ #[t, t] ty #[.slice (some ⟨g, 0, none⟩) n cap, .slice (some ad) m c]).run P w = .ok (.slice (some ⟨g', 0, none⟩) (n + m) cap') w' ∧ Own w' g' e s (.slice (some ⟨g', 0, none⟩) (n + m) cap') (n + m) (xs ++ news) ∧
      w.grownBy w' (some g) ∧ ((g' = w.heap.size ∧ Below w.heap.size w w') ∨ (g' = g ∧ PutAt w w' g (n * s) news)) := by
  by_cases hroom : n + m ≤ cap
  · obtain ⟨ht, i, z, hi, hz, hsize, hby, hzs⟩ := hE
    obtain ⟨hx, cap2, cur, hv, hb, q1, q2, q3, q4⟩ := hown
    have e2 : cap = cap2 := by injection hv
    subst e2
    have hfit : n * s + news.length ≤ cur.size := by rw [hl, q3, ← Nat.add_mul]; exact Nat.mul_le_mul_right _ hroom
    have hr := run_append_room (P := P) w t ty e i ht hi g n cap cur hb ad m c news (by rw [hsize]; exact hl) hnews h1 hroom (by rw [hsize]; exact hfit)
    rw [hsize] at hr
    have hp : PutAt w (w.setRow g (over_ cur (n * s) news)) g (n * s) news := ⟨cur, e, hb, hfit, hb.setRow _⟩
    refine ⟨g, cap, w.setRow g (over_ cur (n * s) news), hr, ⟨by rw [List.length_append, hx, hl, Nat.add_mul], cap, _, rfl, hb.setRow _, hroom, q2, by rw [over_size hfit, q3], ?_⟩, ⟨rfl, rfl, rfl, by simp, fun j hj hne => setRow_other w g j _ (fun e => hne (by rw [e]))⟩, .inr ⟨rfl, hp⟩⟩
    rw [Nat.add_mul, ← hl, over_new hfit, q4]
  · obtain ⟨cap', w', hr, h2, h3⟩ := run_grow (P := P) (w := w) (ty := ty) (b := ⟨g, 0, none⟩) (n := n) (cap := cap) (c := c) (olds := xs) (ad := ad) hE hown.1 hown.at hl hnews (by omega) h63 hbytes
    exact ⟨_, cap', w', hr, h2, ⟨h3.os, h3.tape, h3.output, h3.size, fun b hb _ => h3.block b hb⟩, .inl ⟨rfl, h3⟩⟩
/-- Two rows may have been written in place; all else is as it was. -/
structure Two (go po : Nat) (lo : List Value) (gb pb : Nat) (lb : List Value) (w w' : World) : Prop where
  os : w'.os = w.os
  tape : w'.tape = w.tape
  output : w'.output = w.output
  size : w.heap.size ≤ w'.heap.size
  block : ∀ b, b < w.heap.size → w'.heap[b]? = w.heap[b]? ∨ (b = go ∧ PutAt w w' go po lo) ∨ (b = gb ∧ PutAt w w' gb pb lb)
section
variable {go po gb pb : Nat} {lo lb : List Value} {w w' : World}
theorem Two.of_below (h : Below w.heap.size w w') : Two go po lo gb pb lb w w' := ⟨h.os, h.tape, h.output, h.size, fun b hb => .inl (h.block b hb)⟩
theorem Two.refl : Two go po lo gb pb lb w w := Two.of_below (Below.refl _ _)
theorem Two.left (h : w.grownBy w' (some go)) (hp : PutAt w w' go po lo) : Two go po lo gb pb lb w w' := ⟨h.os, h.tape, h.output, h.size, fun b hb => by
  by_cases e : b = go
  · exact .inr (.inl ⟨e, hp⟩)
  · exact .inl (h.block b hb (fun e2 => e (Option.some.inj e2)))⟩
theorem Two.right (h : w.grownBy w' (some gb)) (hp : PutAt w w' gb pb lb) : Two go po lo gb pb lb w w' := ⟨h.os, h.tape, h.output, h.size, fun b hb => by
  by_cases e : b = gb
  · exact .inr (.inr ⟨e, hp⟩)
  · exact .inl (h.block b hb (fun e2 => e (Option.some.inj e2)))⟩
theorem Two.blk (h : Two go po lo gb pb lb w w') {b : Nat} {C : Array Value} {t : TypeId} (hb : Blk w b C t) (h1 : b ≠ go) (h2 : b ≠ gb) : Blk w' b C t := by
  rcases h.block b hb.lt with e | ⟨e, _⟩ | ⟨e, _⟩
  · exact e.trans hb
  · exact absurd e h1
  · exact absurd e h2
theorem Two.own (h : Two go po lo gb pb lb w w') {b : Nat} {e : TypeId} {s n : Nat} {v : Value} {xs : List Value} (ho : Own w b e s v n xs) (h1 : b = go → n * s ≤ po ∨ ∃ ys, xs = ys ++ lo ∧ ys.length = po) (h2 : b = gb → n * s ≤ pb ∨ ∃ ys, xs = ys ++ lb ∧ ys.length = pb) : Own w' b e s v n xs := by
  rcases h.block b ho.lt with e' | ⟨e', hp⟩ | ⟨e', hp⟩
  · exact ho.move e'
  · subst e'
    rcases h1 rfl with h1 | ⟨ys, rfl, h3⟩
    · exact hp.old ho h1
    · exact hp.again ho h3
  · subst e'
    rcases h2 rfl with h2 | ⟨ys, rfl, h3⟩
    · exact hp.old ho h2
    · exact hp.again ho h3
theorem Two.below (h : Two go po lo gb pb lb w w') {B : Nat} {a : World} (hb : Below B a w) (h1 : B ≤ go) (h2 : B ≤ gb) (hB : B ≤ w.heap.size) : Below B a w' :=
  hb.trans ⟨h.os, h.tape, h.output, h.size, fun k hk => by
    rcases h.block k (by omega) with e | ⟨e, _⟩ | ⟨e, _⟩
    · exact e
    · omega
    · omega⟩
end
/-- A store into one cell of a block: the world behind it by what it holds. -/
theorem wpList_store_cell {P : Program} {ops : Array Oper} {rest : List Oper} {o : Oper} {a : Act} {Q : Exit → Act → World → Prop} {w : World} {ty t : TypeId} {x y : Operand} {b f : Nat} {v : Value} {C : Array Value} (hgd : o.guard = none) (ho : o.op = .store ty x y) (hx : a.eval x = .pointer (some ⟨b, f, none⟩)) (hy : a.eval y = v) (hi : (P.info? ty).map (·.size) = some 1) (hv : v.cells = #[v]) (h1 : v.oneCell' = true) (hb : Blk w b C t) (hf : f < C.size)
    (h : ∀ W, Blk W b (C.setIfInBounds f v) t → w.grownBy W (some b) → wpList P ops Q rest (a.put o.dst undef) W) : wpList P ops Q (o :: rest) a w :=
  wpList_plain hgd fun K hK => by
    have hst := run_storeCells_at P b f t [v] 0 C w hb (by simp; omega) (by simpa using h1)
    unfold Oper.wp execOp
    cases hq : P.info? ty with
    | none => simp [hq] at hi
    | some i =>
      have hsz : i.size = 1 := by simpa [hq] using hi
      simp only [ho, hx, hy, Instr.storeAt, Instr.sureAddr, Sem.run_bind, Sem.run_pure, Result.andThen_ok]
      obtain ⟨W, hW, hB, hG⟩ : ∃ W, (storeVar ty ⟨b, f, none⟩ v).run P w = .ok () W ∧ Blk W b (C.setIfInBounds f v) t ∧ w.grownBy W (some b) := by
        refine ⟨w.setRow b (splice C f #[v]), ?_, ?_, ?_⟩
        · have hst' : (storeCells ⟨b, f, none⟩ [v] 0).run P w = .ok () (w.setRow b (splice C f #[v])) := by simpa [splice] using hst
          simp [storeVar, sizeOf, typeInfo, hq, hv, hsz, hst']
        · have := hb.setRow (splice C f #[v])
          have e : splice C f #[v] = C.setIfInBounds f v := by
            unfold splice
            apply Array.ext'
            simp only [Array.toList_setIfInBounds]
            rw [List.set_eq_take_append_cons_drop, if_pos (by simpa using hf)]
            simp
          rw [e] at this ⊢
          exact this
        · exact ⟨rfl, rfl, rfl, by simp, fun j hj hne => setRow_other w b j _ (fun e => hne (by rw [e]))⟩
      rw [hW]
      exact hK _ _ (h W hB hG)
theorem own_ne {w : World} {b g : Nat} {C : Array Value} {t e : TypeId} {s n : Nat} {v : Value} {xs : List Value} (hb : Blk w b C t) (ho : Own w g e s v n xs) (h : t ≠ e) : b ≠ g := by
  intro e1
  subst e1
  obtain ⟨_, cap, cur, _, hb2, _⟩ := ho
  have h1 : w.heap[b]? = some (.cells C t (0, 0)) := hb
  have h2 : w.heap[b]? = some (.cells cur e (0, 0)) := hb2
  rw [h1] at h2
  injection h2 with h2; injection h2 with _ h2
  exact h h2
theorem own_ne2 {w : World} {b g : Nat} {t e : TypeId} {s s' n n' : Nat} {v v' : Value} {xs xs' : List Value} (hb : Own w b t s' v' n' xs') (ho : Own w g e s v n xs) (h : t ≠ e) : b ≠ g := by
  obtain ⟨_, cap, cur, _, hb2, _⟩ := hb
  exact own_ne hb2 ho h
end Go.Proofs.Ytglimhkpndfjgaa
/- An append onto nil. A plain law; no statement is proved here. -/
namespace Go.Proofs.Ytglimhkpndfjgaa
open Go.ChangeShapes Go.WideShapes Go.ChangeAt Go.RowKit
set_option linter.unusedVariables false
theorem run_app_nil {P : Program} {w : World} {t ty e : TypeId} {s bytes : Nat} (hE : ElemTy P t e s bytes) (hs : 0 < s)
    {ad : Addr} {m c : Nat} {news : List Value} (hm : 0 < m) (hl : news.length = m * s) (hnews : ∀ j u, news[j]? = some u → w.cell? (ad.add j) = some u) (h1 : ∀ u ∈ news, u.oneCell' = true) (h63 : m ≤ maxLen) (hbytes : m * bytes ≤ 140737488355328) :
    ∃ g' cap' w', (Builtin.append_ #[t, t] ty #[.slice none 0 0, .slice (some ad) m c]).run P w = .ok (.slice (some ⟨g', 0, none⟩) m cap') w' ∧ Own w' g' e s (.slice (some ⟨g', 0, none⟩) m cap') m news ∧ Below w.heap.size w w' ∧ w.heap.size ≤ g' := by
  obtain ⟨ht, i, z, hi, hz, hsize, hby, hzs⟩ := hE
  have hrow : w.ownsRow w.heap.size e s (.slice none 0 0) 0 [] := ⟨by simp, .inl ⟨rfl, rfl⟩⟩
  obtain ⟨v', w', hr, h2, h3, h4⟩ := run_append_own (P := P) w w.heap.size t ty e i z s bytes ht hi hz hsize hby hzs hs (Value.slice none 0 0) 0 [] hrow ad m c news hl hnews h1 (by omega) (by rw [Nat.zero_add]; exact hbytes) (Nat.le_refl _)
  rw [Nat.zero_add, List.nil_append] at h2
  obtain ⟨hx, h5⟩ := h2
  rcases h5 with ⟨rfl, h6⟩ | ⟨g, cap, cur, rfl, hg, hb, q1, q2, q3, q4⟩
  · exfalso; omega
  · exact ⟨g, cap, w', hr, ⟨hx, cap, cur, rfl, hb, q1, q2, q3, q4⟩, ⟨h3.os, h3.tape, h3.output, h3.size, fun k hk => h3.block k hk (fun e => by cases e)⟩, hg⟩
end Go.Proofs.Ytglimhkpndfjgaa
/- HeadsOverTime where all is valid, of the first cell, in the program and in the reference. -/
namespace Go.Proofs.Ytglimhkpndfjgaa
open Go.ChangeShapes Go.WideShapes Go.ChangeAt Go.RowKit
set_option linter.unusedVariables false
set_option linter.unusedSimpArgs false
attribute [local irreducible] Calls
/-- The first cell's head behind each step. -/
def heaT (g : Gr) (m a b part i : Nat) : Nat := (tidTo g m a b part (i + 1)).1.hea 0
/-- How many heads are handed back. -/
def runN (g : Gr) (m a b part n : Nat) : Nat := if runC g m a b part n = 0 then n else 0
/-- What has been seen: k heads in a row of its own; a variable that holds the row. -/
def Seen (w0 : World) (q c : Nat) (F : Nat → Nat) (k : Nat) (w : World) : Prop := ∃ (r : Nat) (y : Value), Blk w q #[y] 79 ∧ Own w r 24 1 y k (fls k F) ∧ Blk w c #[.int .i64 0] 2 ∧ w0.heap.size ≤ r
theorem szFS : (Try.prog.info? 79).map (·.size) = some 1 := by kernel_rfl
theorem cell0 {g : Gr} (hv : validG g = true) : isC g 0 = true := isC_zero hv
end Go.Proofs.Ytglimhkpndfjgaa
/- slices.DeleteFunc over whole numbers: what is left are those of which the function says no, in their order. -/
namespace Go.Proofs.Ytglimhkpndfjgaa
open Go.ChangeShapes Go.WideShapes Go.ChangeAt Go.RowKit
set_option linter.unusedVariables false
set_option linter.unusedSimpArgs false
attribute [local irreducible] Calls
/-- A call of a function value with a receiver bound. -/
theorem wpList_callb {P : Program} {ops : Array Oper} {rest : List Oper} {o : Oper} {a : Act} {Q : Exit → Act → World → Prop} {w : World} {x : Operand} {xs : Array Operand} {ts : Array TypeId} {f : FuncId} {bd : Array Value} {l : List Value} (hgd : o.guard = none) (ho : o.op = .call { callee := .value x, args := xs, argTypes := ts }) (hx : a.eval x = .func (.func f) bd #[]) (ha : xs.toList.map a.eval = l) (hf : Callable P f)
    (h : Calls P f (bd ++ l.toArray) w fun e w' => ∃ v, e = .returned v ∧ wpList P ops Q rest (a.put o.dst v) w') : wpList P ops Q (o :: rest) a w :=
  wpList_plain hgd fun K hK => by
    obtain ⟨fn, hf, hn, hb⟩ := hf
    have e : xs.map a.eval = l.toArray := by rw [← ha, ← Array.toList_map, Array.toArray_toList]
    have hn' : fn.name ≠ "runtime.NumGoroutine" := by simpa using hn
    have hb' : ¬ fn.body = none := by intro h0; rw [h0] at hb; simp at hb
    have hr : (execOp a.eval o).run P w = .ok (.enter f (bd ++ l.toArray)) w := by
      simp [execOp, ho, resolve, e, hx, Deferred.ofValue, invoke, callFunc, hf, hn', hb']
    unfold Oper.wp
    rw [hr]
    exact h.mono fun e w' ⟨v, he, hv⟩ => by subst he; exact hK _ _ hv
/-- Those among the first j of which q says no. -/
def nots (q : Nat → Bool) (L : List Nat) (j : Nat) : List Nat := (L.take j).filter fun k => !q k
theorem nots_succ {q : Nat → Bool} {L : List Nat} {j : Nat} (h : j < L.length) : nots q L (j + 1) = if q (L.getD j 0) then nots q L j else nots q L j ++ [L.getD j 0] := by
  unfold nots
  rw [List.take_add_one, List.getElem?_eq_getElem h, List.filter_append]
  have e : L.getD j 0 = L[j] := by rw [List.getD_eq_getElem?_getD, List.getElem?_eq_getElem h]; rfl
  rw [e]
  cases hq : q L[j] <;> simp [hq]
theorem nots_le (q : Nat → Bool) (L : List Nat) (j : Nat) : (nots q L j).length ≤ j := Nat.le_trans (List.length_filter_le _ _) (by rw [List.length_take]; omega)
theorem nots_none {q : Nat → Bool} {L : List Nat} : ∀ {j : Nat}, j ≤ L.length → (∀ i, i < j → q (L.getD i 0) = false) → nots q L j = L.take j
  | 0, _, _ => by simp [nots]
  | j + 1, hj, h => by
    rw [nots_succ (by omega), h j (by omega), nots_none (by omega) fun i hi => h i (by omega)]
    rw [List.take_add_one, List.getElem?_eq_getElem (by omega : j < L.length), List.getD_eq_getElem?_getD, List.getElem?_eq_getElem (by omega : j < L.length)]
    rfl
theorem setCells_blk (b : Nat) (t : TypeId) : ∀ (vs : List Value) (o : Nat) (w : World) (C : Array Value), Blk w b C t → ∃ C', Blk (w.setCells b o vs) b C' t ∧ C'.size = C.size ∧ ∀ i, i < o → C'[i]? = C[i]?
  | [], o, w, C, h => ⟨C, h, rfl, fun _ _ => rfl⟩
  | v :: vs, o, w, C, h => by
    obtain ⟨C', h1, h2, h3⟩ := setCells_blk b t vs (o + 1) (w.setCell ⟨b, o, none⟩ v) (C.setIfInBounds o v) (h.setCell o v)
    refine ⟨C', h1, by simpa using h2, fun i hi => ?_⟩
    rw [h3 i (by omega), Array.getElem?_setIfInBounds, if_neg (by omega)]
theorem setCells_grown (b : Nat) : ∀ (vs : List Value) (o : Nat) (w : World), w.grownBy (w.setCells b o vs) (some b)
  | [], _, w => World.grownBy.refl _ _
  | v :: vs, o, w => (grown_set w b o v).trans (setCells_grown b vs (o + 1) _)
theorem Own.cut {w w' : World} {g : Nat} {e : TypeId} {n c i : Nat} {xs : List Value} (h : Own w g e 1 (.slice (some ⟨g, 0, none⟩) n c) n xs) (hi : i ≤ n) {C : Array Value} (hb : Blk w' g C e) (hs : C.size = c) (hC : C.toList.take i = xs.take i) : Own w' g e 1 (.slice (some ⟨g, 0, none⟩) i c) i (xs.take i) := by
  obtain ⟨h1, cap, cur, hv, hbk, h2, h3, h4, h5⟩ := h
  injection hv with _ _ hv
  subst hv
  refine ⟨by rw [List.length_take]; omega, c, C, rfl, hb, by omega, h3, by omega, ?_⟩
  rw [Nat.mul_one]; exact hC
theorem Own.size {w : World} {g : Nat} {e : TypeId} {n c : Nat} {xs : List Value} (h : Own w g e 1 (.slice (some ⟨g, 0, none⟩) n c) n xs) : ∃ cur, Blk w g cur e ∧ cur.size = c ∧ cur.toList.take n = xs := by
  obtain ⟨h1, cap, cur, hv, hbk, h2, h3, h4, h5⟩ := h
  injection hv with _ _ hv
  subst hv
  exact ⟨cur, hbk, by omega, by rw [Nat.mul_one] at h5; exact h5⟩
theorem ils_set (M : List Nat) (i k : Nat) : (ils M).set i (.int .i64 k) = ils (M.set i k) := by unfold ils; rw [List.map_set]
theorem take_set_succ {α : Type} {M : List α} {i : Nat} {k : α} (h : i < M.length) : (M.set i k).take (i + 1) = M.take i ++ [k] := by
  rw [List.take_add_one, List.take_set, List.getElem?_set_self h]
  congr 1
  exact List.set_eq_of_length_le (by simp; omega)
/-- 'clear(s[i:])': the cells from i on hold something else. -/
theorem wpList_clear {P : Program} {ops : Array Oper} {rest : List Oper} {o : Oper} {a : Act} {Q : Exit → Act → World → Prop} {w : World} {t e : TypeId} {x : Operand} {r i n c : Nat} {C : Array Value} (ht : P.underlying t = some (.slice e)) (hv : ∀ w, (zeroValue e).run P w = .ok (.int .i64 0) w) (hgd : o.guard = none) (ho : o.op = .call { callee := .builtin .clear, args := #[x], argTypes := #[t] }) (hx : a.eval x = .slice (some ⟨r, i, none⟩) n c) (hb : Blk w r C e) (hn : 0 < n) (hs : i + n ≤ C.size)
    (h : ∀ C' w', Blk w' r C' e → C'.size = C.size → (∀ k, k < i → C'[k]? = C[k]?) → w.grownBy w' (some r) → wpList P ops Q rest (a.put o.dst (.tuple #[])) w') : wpList P ops Q (o :: rest) a w :=
  wpList_plain hgd fun K hK => by
    have hr := Lib.run_clear_slice (P := P) w t e o.type (.int .i64 0) ht hv rfl rfl r i n c hn (fun j hj => by rw [hb.cell]; simp; omega) (fun j _ => hb.free _)
    obtain ⟨C', h1, h2, h3⟩ := setCells_blk r e (List.replicate n (.int .i64 0)) i w C hb
    unfold Oper.wp execOp
    simp only [ho, resolve, invoke, builtin, Sem.run_bind, Sem.run_pure, Result.andThen_ok, List.map_toArray, List.map_cons, List.map_nil, hx, hr]
    exact hK _ _ (h C' _ h1 h2 h3 (setCells_grown r _ _ _))
end Go.Proofs.Ytglimhkpndfjgaa
/- WorstBalance where the ground is valid and its balances are finite: what is handed back is the balance of a cell that is not fixed. -/
namespace Go.Proofs.Ytglimhkpndfjgaa
open Go.ChangeShapes Go.WideShapes Go.ChangeAt Go.RowKit
set_option linter.unusedVariables false
set_option linter.unusedSimpArgs false
attribute [local irreducible] Calls
theorem fgt_is (a b : Nat) : (FloatKind.f32.format.order a b == some .gt) = fgt a b := fgt_eq a b
theorem nots_free {g : Gr} {k : Nat} (h : k ∈ nots (isFx g) (cellsTo g 64) (cellsTo g 64).length) : k < 64 ∧ isC g k = true ∧ isFx g k = false := by
  unfold nots at h
  rw [List.take_length, List.mem_filter] at h
  have h1 := cellsTo_mem.1 h.1
  exact ⟨h1.1, h1.2, by simpa using h.2⟩
end Go.Proofs.Ytglimhkpndfjgaa
/- The bits of the cells, all balances, how great a number is, and whether bytes are too many. -/
namespace Go.Proofs.Ytglimhkpndfjgaa
open Go.ChangeShapes Go.WideShapes Go.ChangeAt Go.RowKit
set_option linter.unusedVariables false
set_option linter.unusedSimpArgs false
attribute [local irreducible] Calls
set_option maxRecDepth 100000 in
set_option maxHeartbeats 400000 in
theorem f6big_any (a : Option Addr) (n c : Nat) (hn : n ≤ maxLen) (w : World) :
    Calls Try.prog 4 #[.slice a n c] w fun e w' => e = .returned (.bool (decide (4096 < n))) ∧ w' = w := by
  unfold maxLen at hn
  go_enter Try.func4, Try.ntmps4
  go_wp2_with fail
  go_ret
  refine ⟨bool_eq ?_, rfl⟩
  by_cases h : 4096 < n
  · rw [decide_eq_true h]; simp; omega
  · rw [decide_eq_false h]; simp; omega
def GotB (g : Gr) (w : World) (e : Ending) (w' : World) : Prop := ∃ ff, e = .returned (.tuple #[.agg (fls 64 ff).toArray, .int .i64 0]) ∧ (∀ k, k < 64 → cn (ff k) = cn (balF g k)) ∧ Below w.heap.size w w'
theorem fgt_of_fle {a c : Nat} (h : fle a c = true) : fgt a c = false := by
  unfold fle at h
  unfold fgt
  cases ho : FloatKind.f32.format.order a c with
  | none => rfl
  | some o => rw [ho] at h; cases o <;> first | rfl | simp at h
theorem neg_low (b : Nat) : Op.negFloat .f32 b % 2147483648 = b % 2147483648 := by
  have h : Op.negFloat .f32 b = b ^^^ 2 ^ 31 := rfl
  rw [h]
  have := @Nat.xor_mod_two_pow b (2 ^ 31) 31
  simpa using this
theorem neg_sign (b : Nat) : (Op.negFloat .f32 b / 2147483648 % 2 == 1) = !(b / 2147483648 % 2 == 1) := by
  have h : Op.negFloat .f32 b = b ^^^ 2 ^ 31 := rfl
  have h2 : ∀ x : Nat, (x / 2147483648 % 2 == 1) = x.testBit 31 := fun x => by
    rw [Nat.testBit_eq_decide_div_mod_eq]; rfl
  rw [h2, h2, h, Nat.testBit_xor]
  have : (2 ^ 31 : Nat).testBit 31 = true := by decide
  rw [this, Bool.xor_true]
theorem read_low {b : Nat} (h : b % 2147483648 = 0) : Ieee.single.read b = Ieee.single.read 0 ∨ Ieee.single.read b = Ieee.single.read 2147483648 := by
  have e1 : Ieee.single.signWeight = 2147483648 := single_facts.2.2.2.1
  cases hb : (b / 2147483648 % 2 == 1)
  · left; unfold Ieee.Format.read; rw [e1, hb, h]; rfl
  · right; unfold Ieee.Format.read; rw [e1, hb, h]; rfl
theorem neg_read {b : Nat} (hn : isN .f32 b = false) (h : fle b 0 = true) : Ieee.single.read (Op.negFloat .f32 b) = Ieee.single.read (fab b) ∨ b % 2147483648 = 0 := by
  have hs : (Ieee.single.read b).neg = true ∨ b % 2147483648 = 0 := by
    rcases (fle_zero hn).1 h with ⟨_, hr, _⟩ | ⟨s, m, e, hr, hs⟩
    · left; rw [hr]; rfl
    · rcases hs with rfl | rfl
      · left; rw [hr]; rfl
      · right; exact zero_mag hr
  rcases hs with hs | hs
  · left
    rw [read_sign] at hs
    have hf : (fab b / 2147483648 % 2 == 1) = false := by
      have : fab b / 2147483648 % 2 = 0 := by unfold fab; omega
      rw [this]; rfl
    unfold Ieee.Format.read
    have e1 : Ieee.single.signWeight = 2147483648 := single_facts.2.2.2.1
    have e2 : fab b % 2147483648 = b % 2147483648 := by unfold fab; omega
    rw [e1, neg_sign, hs, hf, neg_low, e2]; rfl
  · exact .inr hs
theorem fgt_low {b : Nat} (h : b % 2147483648 = 0) : fgt b 1073741824 = false := by
  rcases read_low h with h | h
  · rw [fgt_rd h rfl]; kernel_rfl
  · rw [fgt_rd h rfl]; kernel_rfl
theorem fgt_size {b : Nat} (hn : isN .f32 b = false) (hs : fle (fab b) 1073741824 = true) (hz : (FloatKind.f32.format.order b 0 == some .lt) = false) : fgt b 1073741824 = false := by
  cases hl : fle b 0
  · rw [fgt_rd (size_read hn hl) rfl]; exact fgt_of_fle hs
  · have he : FloatKind.f32.format.order b 0 = some .eq := by
      unfold fle at hl; rw [hz] at hl; simpa using hl
    rcases (fle_zero hn).1 hl with ⟨_, hr, _⟩ | ⟨s, m, e, hr, hs⟩
    · unfold Ieee.Format.order at he; simp only [read_f32, read_zero, hr] at he; simp [Ieee.Datum.order] at he
    · by_cases h0 : m = 0
      · subst h0; exact fgt_low (zero_mag hr)
      · rcases hs with rfl | rfl
        · unfold Ieee.Format.order at he; simp only [read_f32, read_zero, hr] at he
          simp only [Ieee.Datum.order, signed_zero] at he
          have := signed_neg h0 (e - min e (-149)).toNat
          have hc : compare (Ieee.signed true m (e - min e (-149)).toNat) 0 = .lt := by rw [Int.compare_eq_lt]; exact this
          simp [hc] at he
        · exact absurd rfl h0
set_option maxRecDepth 100000 in
set_option maxHeartbeats 400000 in
theorem l03Size_any (b : Nat) (h : isN .f32 b = false) (hs : fle (fab b) 1073741824 = true) (w : World) :
    Calls Try.prog 53 #[.float .f32 b] w fun e w' => ∃ r, e = .returned (.float .f32 r) ∧ fgt r 1073741824 = false ∧ w' = w := by
  cases hz : (FloatKind.f32.format.order b 0 == some .lt)
  · have HZ := Lib.hid hz
    go_enter Try.func53, Try.ntmps53
    go_wp2_with fail
    go_ret
    exact ⟨_, rfl, fgt_size h hs HZ.out, rfl⟩
  · have HZ := Lib.hid hz
    go_enter Try.func53, Try.ntmps53
    go_wp2_with fail
    go_ret
    refine ⟨_, rfl, ?_, rfl⟩
    have hl : fle b 0 = true := by unfold fle; rw [HZ.out]; rfl
    rcases neg_read h hl with hr | hr
    · rw [fgt_rd hr rfl]; exact fgt_of_fle hs
    · exact fgt_low ((neg_low b).trans hr)
end Go.Proofs.Ytglimhkpndfjgaa
/- The strongest well: the reference's walk; sizes. -/
namespace Go.Proofs.Ytglimhkpndfjgaa
open Go.ChangeShapes Go.WideShapes Go.ChangeAt Go.RowKit
set_option linter.unusedVariables false
set_option linter.unusedSimpArgs false
attribute [local irreducible] Calls
theorem val_abs {b : Nat} (h : b % 2147483648 < 2139095040) : Val Ieee.single b (sg (b / 2147483648 % 2 == 1) (magS (b % 2147483648))) := by
  obtain ⟨hb, hi, hl, hs, hf⟩ := single_facts
  unfold magS
  split
  · rename_i h1
    refine ⟨b / 2147483648 % 2 == 1, b % 2147483648, 0, ?_, by simp⟩
    unfold Ieee.Format.read
    simp only [hs, hb, hi, hl]
    rw [if_pos h1]; simp
  · rename_i h1
    refine ⟨b / 2147483648 % 2 == 1, 8388608 + b % 2147483648 % 8388608, b % 2147483648 / 8388608 - 1, ?_, rfl⟩
    unfold Ieee.Format.read
    simp only [hs, hb, hi, hl]
    rw [if_neg h1, if_pos h]
/-- The size of a number, as the reference reckons it. -/
def szS (b : Nat) : Nat := if (FloatKind.f32.format.order b 0 == some .lt) = true then Op.negFloat .f32 b else b
theorem zero_val : Val Ieee.single 0 0 := ⟨false, 0, 0, by decide +kernel, rfl⟩
theorem val_szS {b : Nat} (h : b % 2147483648 < 2139095040) : Val Ieee.single (szS b) (magS (b % 2147483648) : Int) := by
  have hv := val_abs h
  have ho : FloatKind.f32.format.order b 0 = some (compare (sg (b / 2147483648 % 2 == 1) (magS (b % 2147483648))) 0) := order_val hv zero_val
  unfold szS
  cases hs : (b / 2147483648 % 2 == 1) <;> rw [hs] at hv ho
  · have e : (FloatKind.f32.format.order b 0 == some .lt) = false := by
      rw [ho, cmp_int, if_neg (by unfold sg; simp)]
      split <;> rfl
    rw [e, if_neg Bool.false_ne_true]
    simpa [sg] using hv
  · by_cases h0 : magS (b % 2147483648) = 0
    · have e : (FloatKind.f32.format.order b 0 == some .lt) = false := by rw [ho, h0]; decide
      rw [e, if_neg Bool.false_ne_true]
      rw [h0] at hv ⊢
      simpa [sg] using hv
    · have e : (FloatKind.f32.format.order b 0 == some .lt) = true := by
        rw [ho, cmp_int, if_pos (by unfold sg; simp; omega)]; rfl
      rw [e, if_pos rfl]
      have hn := val_abs (b := Op.negFloat .f32 b) (by rw [neg_low]; exact h)
      rw [neg_sign, hs, neg_low] at hn
      simpa [sg] using hn
theorem fgt_szS {a b : Nat} (ha : Mg a 240) (hb : Mg b 240) : fgt (szS a) (szS b) = decide (b % 2147483648 < a % 2147483648) := by
  have h1 := ha.fin (by omega)
  have h2 := hb.fin (by omega)
  unfold fgt
  rw [show FloatKind.f32.format.order (szS a) (szS b) = Ieee.single.order (szS a) (szS b) from rfl, order_val (val_szS h1) (val_szS h2), cmp_int]
  rcases Nat.lt_trichotomy (a % 2147483648) (b % 2147483648) with h | h | h
  · have k := magS_lt h
    rw [if_pos (by omega), decide_eq_false (by omega)]; rfl
  · rw [h, if_neg (by omega), if_pos rfl]; simp
  · have k := magS_lt h
    rw [if_neg (by omega), if_neg (by omega), decide_eq_true (by omega)]; rfl
set_option maxRecDepth 100000 in
set_option maxHeartbeats 400000 in
theorem l03Size_is (b : Nat) (w : World) :
    Calls Try.prog 53 #[.float .f32 b] w fun e w' => e = .returned (.float .f32 (szS b)) ∧ w' = w := by
  unfold szS
  cases hz : (FloatKind.f32.format.order b 0 == some .lt)
  · rw [if_neg Bool.false_ne_true]
    have HZ := Lib.hid hz
    go_enter Try.func53, Try.ntmps53
    go_wp2_with fail
    go_ret
    exact ⟨rfl, rfl⟩
  · rw [if_pos rfl]
    have HZ := Lib.hid hz
    go_enter Try.func53, Try.ntmps53
    go_wp2_with fail
    go_ret
    exact ⟨rfl, rfl⟩
set_option maxRecDepth 100000 in
theorem sizeOf_is (b : Nat) (w : World) :
    Calls Try.prog 25 #[.float .f32 b] w fun e w' => e = .returned (.float .f32 (szS b)) ∧ w' = w := by
  have h := fun w' => l03Size_is b w'
  go_enter Try.func25, Try.ntmps25
  go_wp2_with (go_at_call 53; refine (h _).mono ?_; rintro e w' ⟨rfl, hw⟩; rw [hw]; clear hw w')
  go_ret
  exact ⟨rfl, rfl⟩
end Go.Proofs.Ytglimhkpndfjgaa
