/- Slices that a call makes for itself and appends to: where their cells lie, and what an append leaves alone. Plain laws; no statement is proved here. -/
import Derived.Test.YtcojgmgoiopboaaGreatDoorBlk
namespace Go.Proofs.YtcojgmgoiopboaaGreatDoor
open Go.ChangeShapes Go.WideShapes Go.ChangeAt Go.RowKit
set_option linter.unusedVariables false

/-- The slice v has n elements of s cells each, xs, in block g, which it may write. -/
def Own (w : World) (g : Nat) (e : TypeId) (s : Nat) (v : Value) (n : Nat) (xs : List Value) : Prop :=
  xs.length = n * s ∧ ∃ cap cur, v = .slice (some ⟨g, 0, none⟩) n cap ∧ Blk w g cur e ∧ n ≤ cap ∧ cap ≤ maxLen ∧ cur.size = cap * s ∧ cur.toList.take (n * s) = xs

section
variable {w w' : World} {g : Nat} {e : TypeId} {s : Nat} {v : Value} {n : Nat} {xs : List Value}
theorem Own.row (h : Own w g e s v n xs) : w.ownsRow g e s v n xs := by
  obtain ⟨h1, cap, cur, rfl, hb, h2, h3, h4, h5⟩ := h
  exact ⟨h1, .inr ⟨g, cap, cur, rfl, Nat.le_refl _, hb, h2, h3, h4, h5⟩⟩
theorem Own.form (h : Own w g e s v n xs) : ∃ cap, v = .slice (some ⟨g, 0, none⟩) n cap ∧ n ≤ cap ∧ cap ≤ maxLen := by
  obtain ⟨h1, cap, cur, rfl, hb, h2, h3, _⟩ := h
  exact ⟨cap, rfl, h2, h3⟩
theorem Own.lt (h : Own w g e s v n xs) : g < w.heap.size := by obtain ⟨_, _, _, _, hb, _⟩ := h; exact hb.lt
theorem Own.move (h : Own w g e s v n xs) (hg : w'.heap[g]? = w.heap[g]?) : Own w' g e s v n xs := by
  obtain ⟨h1, cap, cur, rfl, hb, h2⟩ := h
  exact ⟨h1, cap, cur, rfl, hg.trans hb, h2⟩
theorem Own.below (h : Own w g e s v n xs) {B : Nat} (hb : Below B w w') (hB : g < B) : Own w' g e s v n xs := h.move (hb.block g hB)
theorem Own.drewN (h : Own w g e s v n xs) (k : Nat) : Own (w.drewN k) g e s v n xs := h.move rfl
theorem Own.alloc (h : Own w g e s v n xs) (o : Obj) : Own (w.alloc o) g e s v n xs := h.move (heap_alloc_old w o h.lt)
theorem Own.grown (h : Own w g e s v n xs) {row : Option Nat} (hg : w.grownBy w' row) (hr : row ≠ some g) : Own w' g e s v n xs := h.move (hg.block g h.lt (Ne.symm hr))
theorem Own.setOther (h : Own w g e s v n xs) {a : Addr} (u : Value) (ha : g ≠ a.block) : Own (w.setCell a u) g e s v n xs := h.move (heap_setCell_other w a g u ha)
theorem Own.rowOther (h : Own w g e s v n xs) {b : Nat} (C : Array Value) (hb : g ≠ b) : Own (w.setRow b C) g e s v n xs := h.move (setRow_other w b g C hb)
/-- An element's cell. -/
theorem Own.cell (h : Own w g e s v n xs) (j : Nat) (hj : j < n * s) : w.cell? ⟨g, j, none⟩ = xs[j]? := by
  obtain ⟨h1, cap, cur, rfl, hb, h2, h3, h4, h5⟩ := h
  rw [hb.cell, ← h5, List.getElem?_take, if_pos hj]; simp
theorem Own.free (h : Own w g e s v n xs) (j : Nat) : w.frozen? ⟨g, j, none⟩ = false := by
  obtain ⟨h1, cap, cur, rfl, hb, _⟩ := h
  exact hb.free j
theorem own_blk {w : World} {g : Nat} {e : TypeId} {s : Nat} {C : Array Value} {n : Nat} {xs : List Value} (h : Blk w g C e) (hs : C.size = n * s) (hm : n ≤ maxLen) (hx : C.toList = xs) : Own w g e s (.slice (some ⟨g, 0, none⟩) n n) n xs := by
  subst hx
  exact ⟨by simp [hs], n, C, rfl, h, Nat.le_refl _, hm, hs, List.take_of_length_le (by simp [hs])⟩
theorem own_made (w : World) (C : Array Value) (n : Nat) (hm : n ≤ maxLen) (hs : C.size = n * s) : Own (w.alloc (.cells C e)) w.heap.size e s (.slice (some ⟨w.heap.size, 0, none⟩) n n) n C.toList :=
  ⟨by simp [hs], n, C, rfl, Blk.new _ _ _, Nat.le_refl _, hm, hs, List.take_of_length_le (by simp [hs])⟩
end

/-- A slice type's element type: its cells, its bytes. -/
def ElemTy (P : Program) (t e : TypeId) (s bytes : Nat) : Prop := P.underlying t = some (.slice e) ∧ ∃ i z, P.info? e = some i ∧ i.zero = some z ∧ i.size = s ∧ i.bytes = bytes ∧ z.cells.size = s

theorem elem_of {P : Program} {t e : TypeId} {s bytes : Nat} {z : Value} (ht : P.underlying t = some (.slice e)) (h : (P.info? e).map (fun i => (i.zero, i.size, i.bytes)) = some (some z, s, bytes)) (hz : z.cells.size = s) : ElemTy P t e s bytes := by
  obtain ⟨i, hi, h1, h2, h3⟩ := info_parts h
  exact ⟨ht, i, z, hi, h1, h2, h3, hz⟩

section
variable {P : Program} {w : World}
theorem run_app {t ty e : TypeId} {s bytes : Nat} (hE : ElemTy P t e s bytes) (hs : 0 < s) {v : Value} {g n : Nat} {xs : List Value} (hown : Own w g e s v n xs)
    {ad : Addr} {m c : Nat} {news : List Value} (hl : news.length = m * s) (hnews : ∀ j u, news[j]? = some u → w.cell? (ad.add j) = some u) (h1 : ∀ u ∈ news, u.oneCell' = true) (h63 : n + m ≤ maxLen) (hbytes : (n + m) * bytes ≤ 140737488355328) :
    ∃ v' w' g', (Builtin.append_ #[t, t] ty #[v, .slice (some ad) m c]).run P w = .ok v' w' ∧ Own w' g' e s v' (n + m) (xs ++ news) ∧ w.grownBy w' (some g) ∧ (g' = g ∨ g' = w.heap.size) := by
  obtain ⟨ht, i, z, hi, hz, hsize, hby, hzs⟩ := hE
  have hrow := hown.row
  obtain ⟨v', w', hr, h2, h3, h4⟩ := run_append_own (P := P) w g t ty e i z s bytes ht hi hz hsize hby hzs hs v n xs hrow ad m c news hl hnews h1 h63 hbytes (Nat.le_of_lt hown.lt)
  obtain ⟨hx, cap, cur, hv, hb, hnc, hcm, hcs, htake⟩ := hown
  have hob : v.ownBlock = some g := by rw [hv]; rfl
  rw [hob] at h3
  have hform : ∃ g' cap', v' = .slice (some ⟨g', 0, none⟩) (n + m) cap' ∧ (g' = g ∨ g' = w.heap.size) := by
    rw [hv] at hr
    by_cases hroom : n + m ≤ cap
    · have hfit : n * i.size + news.length ≤ cur.size := by rw [hl, hcs, hsize, ← Nat.add_mul]; exact Nat.mul_le_mul_right _ hroom
      have hr2 := run_append_room (P := P) w t ty e i ht hi g n cap cur hb ad m c news (by rw [hsize]; exact hl) hnews h1 hroom hfit
      rw [hr2] at hr
      have hrv : Value.slice (some ⟨g, 0, none⟩) (n + m) cap = v' := by injection hr
      exact ⟨g, cap, hrv.symm, .inl rfl⟩
    · have holds : ∀ j u, xs[j]? = some u → w.cell? ((⟨g, 0, none⟩ : Addr).add j) = some u := hrow.cells (g := g) hob
      have hsmall : n + m ≤ 9223372036854775807 := by simp only [maxLen] at h63; omega
      have hr2 := run_append_grow (P := P) w t ty e i z ht hi hz ⟨g, 0, none⟩ n cap xs (by rw [hsize]; exact hx) holds ad m c news (by rw [hsize]; exact hl) hnews (by omega) (by omega) (by rw [hby]; exact growslice_fits (by omega) hbytes)
      rw [hr2] at hr
      have hrv : Value.slice (some ⟨w.heap.size, 0, none⟩) (n + m) (grownCap w (n + m) cap e) = v' := by injection hr
      exact ⟨w.heap.size, _, hrv.symm, .inr rfl⟩
  obtain ⟨g', cap', hv', hg'⟩ := hform
  refine ⟨v', w', g', hr, ?_, h3, hg'⟩
  rcases h2 with ⟨hlen, ⟨hn, _⟩ | ⟨g2, cap2, cur2, hv2, _, hb2, hn2, hc2, hs2, ht2⟩⟩
  · rw [hv'] at hn; cases hn
  · rw [hv2] at hv'
    have e1 : g2 = g' := by injection hv' with a _ _; injection a with a; injection a
    subst e1
    exact ⟨hlen, cap2, cur2, hv2, hb2, hn2, hc2, hs2, ht2⟩

variable {ops : Array Oper} {rest : List Oper} {o : Oper} {a : Act} {Q : Exit → Act → World → Prop}
/-- 'append(s, x)', x's cells being a row of its own. -/
theorem wpList_app {t e e' : TypeId} {s bytes : Nat} {sl x : Operand} {v : Value} {g n b m c : Nat} {xs : List Value} {news : Array Value} (hE : ElemTy P t e s bytes) (hgd : o.guard = none) (ho : o.op = .call { callee := .builtin .append, args := #[sl, x], argTypes := #[t, t] }) (hv : a.eval sl = v) (hx : a.eval x = .slice (some ⟨b, 0, none⟩) m c)
    (hs : 0 < s) (hown : Own w g e s v n xs) (hb : Blk w b news e') (hl : news.size = m * s) (h1 : ∀ u ∈ news.toList, u.oneCell' = true) (h63 : n + m ≤ maxLen) (hbytes : (n + m) * bytes ≤ 140737488355328)
    (h : ∀ v' w' g', Own w' g' e s v' (n + m) (xs ++ news.toList) → w.grownBy w' (some g) → (g' = g ∨ g' = w.heap.size) → wpList P ops Q rest (a.put o.dst v') w') : wpList P ops Q (o :: rest) a w :=
  wpList_plain hgd fun K hK => by
    obtain ⟨v', w', g', hr, h2, h3, h4⟩ := run_app (P := P) (ty := o.type) hE hs hown (ad := ⟨b, 0, none⟩) (m := m) (c := c) (news := news.toList) (by simpa using hl) (fun j u hu => by
      have hadd : (⟨b, 0, none⟩ : Addr).add j = ⟨b, j, none⟩ := by unfold Addr.add; split <;> simp_all
      rw [hadd, hb.cell]; simpa using hu) h1 h63 hbytes
    unfold Oper.wp execOp
    simp only [ho, resolve, invoke, builtin, Sem.run_bind, Sem.run_pure, Result.andThen_ok, List.map_toArray, List.map_cons, List.map_nil, hv, hx, hr]
    exact hK _ _ (h v' w' g' h2 h3 h4)
end

/-- Behind an append onto a block of the call's own, whose new element lies in a block of its own: nothing below B has turned. -/
theorem below_app {B c g : Nat} {w0 w w' : World} {o : Obj} (h : Below B w0 w) (hB : B ≤ w.heap.size) (hg : ((w.drewN c).alloc o).grownBy w' (some g)) (hBg : B ≤ g) : Below B w0 w' := by
  have h1 := (below_drewN h c).alloc (by simpa using hB) o
  exact h1.grown hg (by simp; omega) (fun k hk => by injection hk with hk; omega)
end Go.Proofs.YtcojgmgoiopboaaGreatDoor
