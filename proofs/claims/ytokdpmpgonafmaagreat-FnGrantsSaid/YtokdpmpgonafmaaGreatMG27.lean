import Derived.Test.YtokdpmpgonafmaaGreatMG25
import Derived.Test.YtokdpmpgonafmaaGreatMG26
/- Choices of permits as they lie in memory. Plain laws; no statement is proved here. -/
namespace Go.Proofs.YtokdpmpgonafmaaGreat
open Go.ChangeShapes Go.WideShapes Go.ChangeAt Go.RowKit
set_option linter.unusedVariables false
set_option linter.unusedSimpArgs false

/-- The sum of the rates of some permits. -/
def sumOf (Q : Nat → Pm) (L : List Nat) : Int := (L.map fun i => (Q i).rat).sum
theorem sumOf_nil (Q : Nat → Pm) : sumOf Q [] = 0 := rfl
theorem sumOf_snoc (Q : Nat → Pm) (L : List Nat) (k : Nat) : sumOf Q (L ++ [k]) = sumOf Q L + (Q k).rat := by unfold sumOf; simp
theorem sumOf_bd {Q : Nat → Pm} {m : Nat} (hQ : ∀ i, i < m → (Q i).ok) : ∀ {L : List Nat}, (∀ i, i ∈ L → i < m) → -32768 * (L.length : Int) ≤ sumOf Q L ∧ sumOf Q L ≤ 32767 * (L.length : Int)
  | [], _ => by simp [sumOf]
  | x :: L, h => by
    have ih := sumOf_bd hQ (L := L) (fun i hi => h i (by simp [hi]))
    have hx := (hQ x (h x (by simp))).2.2
    have e : sumOf Q (x :: L) = (Q x).rat + sumOf Q L := by unfold sumOf; simp
    rw [e, List.length_cons]
    omega
/-- A choice as it lies in memory: where its list is, how much room it has there, which permits it has. -/
structure Rec where
  g : Nat
  cap : Nat
  s : Nat
instance : Inhabited Rec := ⟨⟨0, 0, 0⟩⟩
def Rec.val (m : Nat) (r : Rec) : Value := .slice (some ⟨r.g, 0, none⟩) (picks r.s m).length r.cap
def encR (m : Nat) (Q : Nat → Pm) (r : Rec) : List Value := [r.val m, .int .i64 (sumOf Q (picks r.s m))]
def rls (m : Nat) (Q : Nat → Pm) (D : List Rec) : List Value := D.flatMap (encR m Q)
theorem rls_nil (m : Nat) (Q : Nat → Pm) : rls m Q [] = [] := rfl
theorem rls_snoc (m : Nat) (Q : Nat → Pm) (D : List Rec) (r : Rec) : rls m Q (D ++ [r]) = rls m Q D ++ encR m Q r := by unfold rls; rw [List.flatMap_append]; simp
theorem rls_length (m : Nat) (Q : Nat → Pm) (D : List Rec) : (rls m Q D).length = D.length * 2 := by
  induction D with
  | nil => rfl
  | cons r D ih => unfold rls at *; rw [List.flatMap_cons, List.length_append, ih]; simp [encR]; omega
/-- Each choice's list lies where it says. -/
def Lies (w : World) (m : Nat) (B : Nat) (r : Rec) : Prop := Own w r.g 2 1 (r.val m) (picks r.s m).length (ils (picks r.s m)) ∧ B ≤ r.g
theorem elCh : ElemTy Tryz.prog 109 81 2 32 := elem_of (z := .agg #[.slice none 0 0, .int .i64 0]) Tryz.underlying109 (by kernel_rfl) rfl
/-- Which choices are kept among the first k. -/
def keptTo (K : List Nat → Bool) (m k : Nat) : List Nat := (List.range k).filter fun s => K (picks s m)
theorem keptTo_succ (K : List Nat → Bool) (m k : Nat) : keptTo K m (k + 1) = if K (picks k m) then keptTo K m k ++ [k] else keptTo K m k := by
  unfold keptTo; rw [List.range_succ, List.filter_append]
  cases h : K (picks k m) <;> simp [h]
theorem and_one (a : Nat) (h : a < 9223372036854775808) : bits .and .i64 (a : Int) 1 = ((a % 2 : Nat) : Int) := by
  have e : bits .and .i64 (a : Int) 1 = IntKind.i64.wrap (((BitVec.ofInt 64 (a : Int) &&& BitVec.ofInt 64 1).toNat : Nat) : Int) := rfl
  rw [e, show BitVec.ofInt 64 (a : Int) = BitVec.ofNat 64 a by simp, show BitVec.ofInt 64 1 = BitVec.ofNat 64 1 by decide, BitVec.toNat_and]
  simp only [BitVec.toNat_ofNat]
  rw [Nat.mod_eq_of_lt (by omega), Nat.and_one_is_mod, IntKind.wrap_i64]
  omega
theorem bit_of (s i : Nat) (hs : s < 9223372036854775808) : bits .and .i64 ((s : Int) / 2 ^ i) 1 = if bitB s i then 1 else 0 := by
  have e : (s : Int) / 2 ^ i = ((s / 2 ^ i : Nat) : Int) := by simp
  rw [e, and_one _ (Nat.lt_of_le_of_lt (Nat.div_le_self _ _) hs)]
  unfold bitB
  have : s / 2 ^ i % 2 < 2 := Nat.mod_lt _ (by decide)
  generalize s / 2 ^ i % 2 = x at *
  have : x = 0 ∨ x = 1 := by omega
  rcases this with rfl | rfl <;> rfl
/-- What stays as it is while a permit is taken into a choice. -/
structure ChC (W3 wo : World) (z c7 q gl gb : Nat) (va vb : Value) (Sm : Int) (p : Pm) (n : Nat) (xs ys : List Value) (w' : World) : Prop where
  blk : Blk w' c7 #[va, .int .i64 Sm] 81
  pm : Blk w' q p.cells 64
  one : Own w' gl 2 1 va n xs
  two : Own w' gb 64 3 vb n ys
  below : Below z wo w'
  size : W3.heap.size ≤ w'.heap.size
section
variable {W3 wo : World} {z c7 q gl gb : Nat} {va vb : Value} {Sm : Int} {p : Pm} {n : Nat} {xs ys lo lb : List Value} {w1 w2 : World} {po pb : Nat}
theorem ChC.step (h : ChC W3 wo z c7 q gl gb va vb Sm p n xs ys w1) (ht : Two gl po lo gb pb lb w1 w2) (h1 : c7 ≠ gl ∧ c7 ≠ gb) (h2 : q ≠ gl ∧ q ≠ gb) (h3 : gl ≠ gb) (h4 : n * 1 ≤ po) (h5 : n * 3 ≤ pb) (hz : z ≤ gl ∧ z ≤ gb ∧ z ≤ W3.heap.size) : ChC W3 wo z c7 q gl gb va vb Sm p n xs ys w2 :=
  ⟨ht.blk h.blk h1.1 h1.2, ht.blk h.pm h2.1 h2.2, ht.own h.one (fun _ => .inl h4) (fun e => absurd e h3), ht.own h.two (fun e => absurd e.symm h3) (fun _ => .inl h5), ht.below h.below hz.1 hz.2.1 (Nat.le_trans hz.2.2 h.size), Nat.le_trans h.size ht.size⟩
end
/-- .. behind the store of the list. -/
structure ChL (W3 wo : World) (z c7 q gl gb : Nat) (vb : Value) (Sm : Int) (p : Pm) (n : Nat) (xs ys : List Value) (w' : World) : Prop where
  blk : ∃ g1 c1, Blk w' c7 #[.slice (some ⟨g1, 0, none⟩) (n + 1) c1, .int .i64 Sm] 81 ∧ Own w' g1 2 1 (.slice (some ⟨g1, 0, none⟩) (n + 1) c1) (n + 1) xs ∧ (g1 = gl ∨ W3.heap.size ≤ g1)
  pm : Blk w' q p.cells 64
  below : Below z wo w'
  size : W3.heap.size ≤ w'.heap.size
theorem ChL.alloc {W3 wo : World} {z c7 q gl gb : Nat} {vb : Value} {Sm : Int} {p : Pm} {n : Nat} {xs ys : List Value} {w1 : World} (h : ChL W3 wo z c7 q gl gb vb Sm p n xs ys w1) (hz : z ≤ W3.heap.size) (o : Obj) : ChL W3 wo z c7 q gl gb vb Sm p n xs ys (w1.alloc o) := by
  obtain ⟨⟨g1, c1, h1, h2, h3⟩, h4, h5, h6⟩ := h
  exact ⟨⟨g1, c1, h1.alloc _, h2.alloc _, h3⟩, h4.alloc _, h5.alloc (by omega) _, by simp; omega⟩
/-- A store into one cell of a block, among operations whose order is open. -/
theorem good_store {P : Program} {CL : World → Prop} {R : World → World → Prop} {F : World → Nat → Value → Prop} {o : Oper} {ev : Operand → Value} {w : World} {ty t : TypeId} {x y : Operand} {b f : Nat} {v : Value} {C : Array Value} (hd : o.dst = none) (ho : o.op = .store ty x y) (hx : ev x = .pointer (some ⟨b, f, none⟩)) (hy : ev y = v) (hi : (P.info? ty).map (·.size) = some 1) (hv : v.cells = #[v]) (h1 : v.oneCell' = true) (hb : Blk w b C t) (hf : f < C.size)
    (h : ∀ W, Blk W b (C.setIfInBounds f v) t → w.grownBy W (some b) → CL W ∧ R w W) : Good P CL R F o w ((execOp ev o).run P w) := by
  have hst := run_storeCells_at P b f t [v] 0 C w hb (by simp; omega) (by simpa using h1)
  unfold execOp
  cases hq : P.info? ty with
  | none => simp [hq] at hi
  | some i =>
    have hsz : i.size = 1 := by simpa [hq] using hi
    simp only [ho, hx, hy, Instr.storeAt, Instr.sureAddr, Sem.run_bind, Sem.run_pure, Result.andThen_ok]
    obtain ⟨W, hW, hB, hG⟩ : ∃ W, (storeVar ty ⟨b, f, none⟩ v).run P w = .ok () W ∧ Blk W b (C.setIfInBounds f v) t ∧ w.grownBy W (some b) := by
      refine ⟨w.setRow b (splice C f #[v]), ?_, ?_, ?_⟩
      · have hst' : (storeCells ⟨b, f, none⟩ [v] 0).run P w = .ok () (w.setRow b (splice C f #[v])) := by simpa [splice] using hst
        simp [storeVar, sizeOf, typeInfo, hq, hv, hsz, hst']
      · have := hb.setRow (splice C f #[v])
        have e : splice C f #[v] = C.setIfInBounds f v := by
          unfold splice
          apply Array.ext'
          simp only [Array.toList_setIfInBounds]
          rw [List.set_eq_take_append_cons_drop, if_pos (by simpa using hf)]
          simp
        rw [e] at this ⊢
        exact this
      · exact ⟨rfl, rfl, rfl, by simp, fun j hj hne => setRow_other w b j _ (fun e => hne (by rw [e]))⟩
    rw [hW]
    obtain ⟨q1, q2⟩ := h W hB hG
    exact ⟨q1, q2, fun d hd' => by rw [hd] at hd'; cases hd'⟩
theorem rowCh : RowTy Tryz.prog 81 2 := ⟨_, Tryz.underlying81, rfl, by kernel_rfl⟩
theorem szSl : (Tryz.prog.info? 34).map (·.size) = some 1 := by kernel_rfl
theorem szI64 : (Tryz.prog.info? 2).map (·.size) = some 1 := by kernel_rfl
end Go.Proofs.YtokdpmpgonafmaaGreat
/- An append onto nil. A plain law; no statement is proved here. -/
namespace Go.Proofs.YtokdpmpgonafmaaGreat
open Go.ChangeShapes Go.WideShapes Go.ChangeAt Go.RowKit
set_option linter.unusedVariables false
theorem run_app_nil {P : Program} {w : World} {t ty e : TypeId} {s bytes : Nat} (hE : ElemTy P t e s bytes) (hs : 0 < s)
    {ad : Addr} {m c : Nat} {news : List Value} (hm : 0 < m) (hl : news.length = m * s) (hnews : ∀ j u, news[j]? = some u → w.cell? (ad.add j) = some u) (h1 : ∀ u ∈ news, u.oneCell' = true) (h63 : m ≤ maxLen) (hbytes : m * bytes ≤ 140737488355328) :
    ∃ g' cap' w', (Builtin.append_ #[t, t] ty #[.slice none 0 0, .slice (some ad) m c]).run P w = .ok (.slice (some ⟨g', 0, none⟩) m cap') w' ∧ Own w' g' e s (.slice (some ⟨g', 0, none⟩) m cap') m news ∧ Below w.heap.size w w' ∧ w.heap.size ≤ g' := by
  obtain ⟨ht, i, z, hi, hz, hsize, hby, hzs⟩ := hE
  have hrow : w.ownsRow w.heap.size e s (.slice none 0 0) 0 [] := ⟨by simp, .inl ⟨rfl, rfl⟩⟩
  obtain ⟨v', w', hr, h2, h3, h4⟩ := run_append_own (P := P) w w.heap.size t ty e i z s bytes ht hi hz hsize hby hzs hs (Value.slice none 0 0) 0 [] hrow ad m c news hl hnews h1 (by omega) (by rw [Nat.zero_add]; exact hbytes) (Nat.le_refl _)
  rw [Nat.zero_add, List.nil_append] at h2
  obtain ⟨hx, h5⟩ := h2
  rcases h5 with ⟨rfl, h6⟩ | ⟨g, cap, cur, rfl, hg, hb, q1, q2, q3, q4⟩
  · exfalso; omega
  · exact ⟨g, cap, w', hr, ⟨hx, cap, cur, rfl, hb, q1, q2, q3, q4⟩, ⟨h3.os, h3.tape, h3.output, h3.size, fun k hk => h3.block k hk (fun e => by cases e)⟩, hg⟩
end Go.Proofs.YtokdpmpgonafmaaGreat
