import Derived.Test.YtglimhkpndfjgaaMT17
import Derived.Test.YtglimhkpndfjgaaMT11
import Derived.OwnWalk
import Derived.Test.YtglimhkpndfjgaaMT03
import Derived.Deep.Strs
import Derived.Test.YtglimhkpndfjgaaMT05
import Derived.Test.YtglimhkpndfjgaaMT07
import Derived.Test.YtglimhkpndfjgaaMT12
import Derived.Test.YtglimhkpndfjgaaMT16
/- LevelsWith, in the program and in the reference; lists that a call has made, or none. -/
namespace Go.Proofs.Ytglimhkpndfjgaa
open Go.ChangeShapes Go.WideShapes Go.ChangeAt Go.RowKit
set_option linter.unusedVariables false
set_option linter.unusedSimpArgs false
attribute [local irreducible] Calls

/-- A list of single cells that a call has made, or none. -/
def Rs (e : TypeId) (w : World) (g : Nat) (v : Value) (n : Nat) (xs : List Value) : Prop := (n = 0 ∧ ∃ a cap, v = .slice a 0 cap ∧ cap ≤ maxLen) ∨ Own w g e 1 v n xs
theorem Rs.form {e : TypeId} {w : World} {g : Nat} {v : Value} {n : Nat} {xs : List Value} (h : Rs e w g v n xs) : ∃ a cap, v = .slice a n cap ∧ n ≤ cap ∧ cap ≤ maxLen ∧ (n = 0 ∨ (a = some ⟨g, 0, none⟩ ∧ g < w.heap.size ∧ ∀ j, j < n → w.cell? ⟨g, j, none⟩ = xs[j]?)) := by
  rcases h with ⟨rfl, a, cap, rfl, h⟩ | h
  · exact ⟨a, cap, rfl, Nat.zero_le _, h, .inl rfl⟩
  · obtain ⟨cap, rfl, h1, h2⟩ := h.form
    exact ⟨_, cap, rfl, h1, h2, .inr ⟨rfl, h.lt, fun j hj => h.cell j (by omega)⟩⟩
theorem Rs.below {e : TypeId} {w w' : World} {g : Nat} {v : Value} {n : Nat} {xs : List Value} (h : Rs e w g v n xs) (hb : Below w.heap.size w w') : Rs e w' g v n xs := by
  rcases h with h | h
  · exact .inl h
  · exact .inr (h.below hb h.lt)
theorem Rs.only {e : TypeId} {w w' : World} {g k : Nat} {v : Value} {n : Nat} {xs : List Value} (h : Rs e w g v n xs) (hb : Only k w w') (hk : n = 0 ∨ g ≠ k) : Rs e w' g v n xs := by
  rcases h with h | h
  · exact .inl h
  · rcases hk with rfl | hk
    · obtain ⟨cap, rfl, _, hc⟩ := h.form
      exact .inl ⟨rfl, _, cap, rfl, hc⟩
    · exact .inr (h.move (hb.block g hk))
theorem Rs.ne {e : TypeId} {w : World} {g : Nat} {v : Value} {n : Nat} {xs : List Value} (h : Rs e w g v n xs) {k : Nat} (hk : w.heap.size ≤ k) : n = 0 ∨ g ≠ k := by
  rcases h with h | h
  · exact .inl h.1
  · have := h.lt; exact .inr (by omega)
theorem elFl : ElemTy Try.prog 79 24 1 4 := elem_of (z := .float .f32 0) Try.underlying79 (by kernel_rfl) rfl

def lvF (G : Gr) (P : Nat → Wt) (i : Nat) : Nat := G.hea (P i).cel.toNat
def lvN (g : Gr) (n : Nat) (P : Nat → Wt) (m : Nat) (Q : Nat → Pm) : Nat := if (gwT g n P m Q).2 = 0 then n else 0
theorem gwT_watch' {g : Gr} {n m : Nat} {P : Nat → Wt} {Q : Nat → Pm} (h : (gwT g n P m Q).2 = 0) : watchIn n P ∧ n ≤ 6 := by
  unfold gwT at h
  cases hv : validP g n P m Q
  · rw [hv] at h; simp at h
  · have h0 := (validP_use hv).2.1
    refine ⟨validO_watch h0, ?_⟩
    unfold validO at h0
    simp only [Bool.and_eq_true, decide_eq_true_eq] at h0
    exact h0.2.1

end Go.Proofs.Ytglimhkpndfjgaa
/- Permits that a caller hands in, opened. -/
namespace Go.Proofs.Ytglimhkpndfjgaa
open Go.ChangeShapes Go.WideShapes Go.ChangeAt Go.RowKit
set_option linter.unusedVariables false
theorem lt_of_cell {w : World} {a : Addr} {v : Value} (h : w.cell? a = some v) : a.block < w.heap.size := by
  unfold World.cell? at h
  by_cases hb : a.block < w.heap.size
  · exact hb
  · rw [Array.getElem?_eq_none (by omega)] at h; simp at h
section
variable {H : Type} {enc : TypeId × Value → H} {W : World} {r : Reach} {b0 : Nat}
end
end Go.Proofs.Ytglimhkpndfjgaa
/- The law over ValidOffice: the walk through the law's own function; offices that a caller hands in, opened. -/
namespace Go.Proofs.Ytglimhkpndfjgaa
open Go.ChangeShapes Go.WideShapes Go.ChangeAt Go.RowKit
set_option linter.unusedVariables false
set_option linter.unusedSimpArgs false
attribute [local irreducible] Calls

end Go.Proofs.Ytglimhkpndfjgaa
/- Marks that a law writes into lists and offices, and lists of floats compared: the walks through the law's helpers. -/
namespace Go.Proofs.Ytglimhkpndfjgaa
open Go.ChangeShapes Go.WideShapes Go.ChangeAt Go.RowKit
set_option linter.unusedVariables false
set_option linter.unusedSimpArgs false
attribute [local irreducible] Calls

theorem settT_valid {within : Nat} : ∀ (l : Nat) (n : Int) (G : Gr), (settT within l n G).2.2 = 0 → validG (settT within l n G).1 = true
  | 0, _, _, h => by simp [settT] at h
  | l + 1, n, G, h => by
    unfold settT at h ⊢
    cases hv : validG (sweepG G)
    · rw [hv] at h; simp at h
    · rw [hv] at h
      simp only [if_true] at h ⊢
      cases hf : fle (chg G (sweepG G)) within
      · rw [hf] at h
        simp only [if_false, Bool.false_eq_true] at h ⊢
        exact settT_valid l _ _ h
      · simp only [if_true]; exact hv
theorem withT_valid {Q : Nat → Pm} : ∀ (l i : Nat) (G : Gr), (withT Q l i G).2 = 0 → validG (withT Q l i G).1 = true
  | 0, _, G, h => settT_valid 1000 0 G h
  | l + 1, i, G, h => by
    unfold withT at h ⊢
    cases hv : validG (lessG G (Q i))
    · rw [hv] at h; simp at h
    · rw [hv] at h
      simp only [if_true] at h ⊢
      exact withT_valid l _ _ h
theorem plainW {G : Gr} (h : validG G = true) (k : Nat) (hk : k < 64) : isN .f32 (G.hea k) = false := fieldIs_num (fun _ => plain_num) (validG_parts h).2.2.2.2.1 k hk
theorem lv_num {g : Gr} {n m : Nat} {P : Nat → Wt} {Q : Nat → Pm} : ∀ i, i < lvN g n P m Q → isN .f32 (lvF (gwT g n P m Q).1 P i) = false := fun i hi => by
  unfold lvN at hi
  by_cases h : (gwT g n P m Q).2 = 0
  · rw [if_pos h] at hi
    obtain ⟨c, hc, hc64⟩ := (gwT_watch' h).1 i hi
    have hv : validG (gwT g n P m Q).1 = true := by
      unfold gwT at h ⊢
      cases hp : validP g n P m Q
      · rw [hp] at h; simp at h
      · rw [hp] at h
        simp only [if_true] at h ⊢
        exact withT_valid _ _ _ h
    unfold lvF
    exact plainW hv _ (by rw [hc]; omega)
  · rw [if_neg h] at hi; omega
theorem isN_int (n : Int) : isN .f32 (floatOfInt .f32 n) = false := by
  unfold floatOfInt FloatKind.nearest FloatKind.encode Ieee.Format.write
  exact isN_nearest _ _ _
theorem fls_setL (n : Nat) (f : Nat → Nat) (k b : Nat) (hk : k < n) : (fls n f).set k (.float .f32 b) = fls n (upd f k b) := by
  have := congrArg Array.toList (fls_set n f k b hk)
  simpa using this

theorem Blk.only {w w' : World} {b g : Nat} {C : Array Value} {t : TypeId} (h : Blk w b C t) (ho : Only g w w') (hb : b ≠ g) : Blk w' b C t := (ho.block b hb).trans h
theorem Own.only {w w' : World} {b g : Nat} {e : TypeId} {s : Nat} {v : Value} {n : Nat} {xs : List Value} (h : Own w b e s v n xs) (ho : Only g w w') (hb : b ≠ g) : Own w' b e s v n xs := h.move (ho.block b hb)
theorem lvN_le {g : Gr} {n m : Nat} {P : Nat → Wt} {Q : Nat → Pm} : lvN g n P m Q ≤ n := by unfold lvN; split <;> omega
end Go.Proofs.Ytglimhkpndfjgaa
/- The permits that are granted in order: appends that must grow, slices.Clip, the walks through the program's inOrder and the reference's l07Grant. -/
namespace Go.Proofs.Ytglimhkpndfjgaa
open Go.ChangeShapes Go.WideShapes Go.ChangeAt Go.RowKit
set_option linter.unusedVariables false
set_option linter.unusedSimpArgs false

/-- An append onto a slice without room. -/
theorem run_grow {P : Program} {w : World} {t ty e : TypeId} {s bytes : Nat} (hE : ElemTy P t e s bytes) {b : Addr} {n cap m c : Nat} {ad : Addr} {olds news : List Value} (hlo : olds.length = n * s) (holds : ∀ j u, olds[j]? = some u → w.cell? (b.add j) = some u)
    (hl : news.length = m * s) (hnews : ∀ j u, news[j]? = some u → w.cell? (ad.add j) = some u) (hg : cap < n + m) (h63 : n + m ≤ maxLen) (hbytes : (n + m) * bytes ≤ 140737488355328) :
    ∃ cap' w', (Builtin.append_ #[t, t] ty #[.slice (some b) n cap, .slice (some ad) m c]).run P w = .ok (.slice (some ⟨w.heap.size, 0, none⟩) (n + m) cap') w' ∧ Own w' w.heap.size e s (.slice (some ⟨w.heap.size, 0, none⟩) (n + m) cap') (n + m) (olds ++ news) ∧ Below w.heap.size w w' := by
  obtain ⟨ht, i, z, hi, hz, hsize, hby, hzs⟩ := hE
  have hsmall : n + m ≤ 9223372036854775807 := by simp only [maxLen] at h63; omega
  have hr := run_append_grow (P := P) w t ty e i z ht hi hz b n cap olds (by rw [hsize]; exact hlo) holds ad m c news (by rw [hsize]; exact hl) hnews hg (by omega) (by rw [hby]; exact growslice_fits (by omega) hbytes)
  have hge := grownCap_ge w (n + m) cap e
  have hle := grownCap_le_maxLen w (n + m) cap e h63
  refine ⟨_, _, hr, ⟨by rw [List.length_append, hlo, hl, Nat.add_mul], _, olds.toArray ++ news.toArray ++ Builtin.zeroCells z.cells (grownCap w (n + m) cap e - (n + m)), rfl, Blk.new w.drew _ _, hge, hle, ?_, ?_⟩, ?_⟩
  · simp only [Array.size_append, List.size_toArray, size_zeroCells, hzs, hlo, hl, ← Nat.add_mul]
    congr 1
    omega
  · rw [Array.toList_append, Array.toList_append]
    rw [List.take_append_of_le_length (by simp [hlo, hl, Nat.add_mul])]
    exact List.take_of_length_le (by simp [hlo, hl, Nat.add_mul])
  · exact (below_drewN (Below.refl w.heap.size w) 1).alloc (by simp) _

/-- Which permits are granted among the first k. -/
def grantTo (K : List Nat → Bool) : Nat → List Nat
  | 0 => []
  | k + 1 => if K (grantTo K k ++ [k]) then grantTo K k ++ [k] else grantTo K k
theorem grantTo_lt (K : List Nat → Bool) : ∀ k, (∀ i, i ∈ grantTo K k → i < k) ∧ (grantTo K k).length ≤ k
  | 0 => ⟨fun i hi => absurd hi (List.not_mem_nil), Nat.le_refl _⟩
  | k + 1 => by
    obtain ⟨h1, h2⟩ := grantTo_lt K k
    unfold grantTo
    split
    · refine ⟨fun i hi => ?_, by simp; omega⟩
      rcases List.mem_append.1 hi with h | h
      · have := h1 i h; omega
      · simp at h; omega
    · exact ⟨fun i hi => by have := h1 i hi; omega, by omega⟩
/-- The permits of a list. -/
def pickP (Q : Nat → Pm) (L : List Nat) : Nat → Pm := fun i => Q (L.getD i 0)
def grK (g : Gr) (n : Nat) (P : Nat → Wt) (Q : Nat → Pm) (L : List Nat) : Bool := keptB g n P L.length (pickP Q L)
theorem pickP_in {g : Gr} {m : Nat} {Q : Nat → Pm} (h : cellsIn g m Q) {L : List Nat} (hL : ∀ i, i ∈ L → i < m) : cellsIn g L.length (pickP Q L) := fun i hi => by
  unfold pickP
  rw [show L.getD i 0 = L[i] by simp [List.getD_eq_getElem?_getD, List.getElem?_eq_getElem hi]]
  exact h _ (hL _ (List.getElem_mem hi))
theorem pickP_pls (Q : Nat → Pm) (L : List Nat) (k : Nat) : pls (L ++ [k]).length (pickP Q (L ++ [k])) = pls L.length (pickP Q L) ++ (Q k).cells.toList := by
  rw [List.length_append, List.length_singleton, pls_succ]
  congr 1
  · exact pls_congr fun i hi => by unfold pickP; simp [List.getD_eq_getElem?_getD, List.getElem?_append_left hi]
  · unfold pickP; simp [List.getD_eq_getElem?_getD]
theorem PSl.cells {w : World} {b o n c : Nat} {P : Nat → Pm} (h : PSl w (.slice (some ⟨b, o, none⟩) n c) n P) : ∀ j u, (pls n P)[j]? = some u → w.cell? ((⟨b, o, none⟩ : Addr).add j) = some u := by
  obtain ⟨a, cap, he, h1, h2, h3⟩ := h
  injection he with e1 e2 e3
  intro j u hu
  have hj : j < n * 3 := by have := (List.getElem?_eq_some_iff.1 hu).1; rwa [pls_length] at this
  rcases h3 with h3 | ⟨b', o', hb, hlt, hc⟩
  · subst h3; omega
  · rw [hb] at e1
    injection e1 with e1
    injection e1 with e1 e4
    subst e1; subst e4
    have := hc (j / 3) (j % 3) (by omega) (by omega)
    rw [show o + j / 3 * 3 + j % 3 = o + j by omega] at this
    have hadd : (⟨b, o, none⟩ : Addr).add j = ⟨b, o + j, none⟩ := by unfold Addr.add; split <;> simp_all
    rw [hadd, this, ← pls_get n P (j / 3) (j % 3) (by omega) (by omega), show j / 3 * 3 + j % 3 = j by omega]
    exact hu
attribute [local irreducible] Calls

section
variable {P : Program} {ops : Array Oper} {rest : List Oper} {o : Oper} {a : Act} {w : World} {Q : Exit → Act → World → Prop}
/-- 'append(s, x)', s having no room. -/
theorem wpList_grow {t e : TypeId} {s bytes : Nat} {sl x : Operand} {b : Addr} {n cap m c : Nat} {ad : Addr} {olds news : List Value} (hE : ElemTy P t e s bytes) (hgd : o.guard = none) (ho : o.op = .call { callee := .builtin .append, args := #[sl, x], argTypes := #[t, t] }) (hv : a.eval sl = .slice (some b) n cap) (hx : a.eval x = .slice (some ad) m c)
    (hlo : olds.length = n * s) (holds : ∀ j u, olds[j]? = some u → w.cell? (b.add j) = some u) (hl : news.length = m * s) (hnews : ∀ j u, news[j]? = some u → w.cell? (ad.add j) = some u) (hg : cap < n + m) (h63 : n + m ≤ maxLen) (hbytes : (n + m) * bytes ≤ 140737488355328)
    (h : ∀ cap' w', Own w' w.heap.size e s (.slice (some ⟨w.heap.size, 0, none⟩) (n + m) cap') (n + m) (olds ++ news) → Below w.heap.size w w' → wpList P ops Q rest (a.put o.dst (.slice (some ⟨w.heap.size, 0, none⟩) (n + m) cap')) w') : wpList P ops Q (o :: rest) a w :=
  wpList_plain hgd fun K hK => by
    obtain ⟨cap', w', hr, h2, h3⟩ := run_grow (P := P) (w := w) (ty := o.type) (c := c) (ad := ad) (b := b) hE hlo holds hl hnews hg h63 hbytes
    unfold Oper.wp execOp
    simp only [ho, resolve, invoke, builtin, Sem.run_bind, Sem.run_pure, Result.andThen_ok, List.map_toArray, List.map_cons, List.map_nil, hv, hx, hr]
    exact hK _ _ (h cap' w' h2 h3)
end
theorem elI64 : ElemTy Try.prog 37 2 1 8 := elem_of (z := .int .i64 0) Try.underlying37 (by kernel_rfl) rfl
theorem Own.at {w : World} {g : Nat} {e : TypeId} {s : Nat} {v : Value} {n : Nat} {xs : List Value} (h : Own w g e s v n xs) : ∀ j u, xs[j]? = some u → w.cell? ((⟨g, 0, none⟩ : Addr).add j) = some u := fun j u hu => by
  have hj : j < n * s := by have := (List.getElem?_eq_some_iff.1 hu).1; rw [h.1] at this; exact this
  have hadd : (⟨g, 0, none⟩ : Addr).add j = ⟨g, j, none⟩ := by unfold Addr.add; split <;> simp_all
  rw [hadd, h.cell j hj]; exact hu
theorem Blk.at {w : World} {b : Nat} {C : Array Value} {t : TypeId} (h : Blk w b C t) : ∀ j u, C.toList[j]? = some u → w.cell? ((⟨b, 0, none⟩ : Addr).add j) = some u := fun j u hu => by
  have hadd : (⟨b, 0, none⟩ : Addr).add j = ⟨b, j, none⟩ := by unfold Addr.add; split <;> simp_all
  rw [hadd, h.cell]; simpa using hu

/-- An append onto an empty slice without room: nothing that was there turns. -/
theorem run_app0 {P : Program} {w : World} {t ty e : TypeId} {s bytes : Nat} (hE : ElemTy P t e s bytes) {r m c : Nat} {ad : Addr} {news : List Value} (hown : Own w r e s (.slice (some ⟨r, 0, none⟩) 0 0) 0 [])
    (hl : news.length = m * s) (hnews : ∀ j u, news[j]? = some u → w.cell? (ad.add j) = some u) (h63 : m ≤ maxLen) (hbytes : m * bytes ≤ 140737488355328) :
    ∃ g' c' w', (Builtin.append_ #[t, t] ty #[.slice (some ⟨r, 0, none⟩) 0 0, .slice (some ad) m c]).run P w = .ok (.slice (some ⟨g', 0, none⟩) m c') w' ∧ Own w' g' e s (.slice (some ⟨g', 0, none⟩) m c') m news ∧ Below w.heap.size w w' ∧ (g' = r ∨ g' = w.heap.size) := by
  by_cases hm : m = 0
  · subst hm
    obtain rfl : news = [] := List.length_eq_zero_iff.1 (by omega)
    obtain ⟨ht, i, z, hi, hz, hsize, hby, hzs⟩ := hE
    have hr := run_append_room_cells (P := P) w t ty e i ht hi r 0 0 0 ad 0 c [] (by simp) (fun j u h => by simp at h) (fun u h => by cases h) (by omega) (fun j h => by simp at h) (fun j h => by simp at h)
    exact ⟨r, 0, w, hr.trans (by first | rfl | simp [World.setCells]), hown, Below.refl _ _, .inl rfl⟩
  · obtain ⟨cap', w', hr, h2, h3⟩ := run_grow (P := P) (w := w) (ty := ty) (b := ⟨r, 0, none⟩) (n := 0) (cap := 0) (c := c) (olds := []) (ad := ad) hE (by simp) (fun j u h => by simp at h) hl hnews (by omega) (by omega) (by simpa using hbytes)
    rw [Nat.zero_add] at hr h2
    exact ⟨_, cap', w', hr, by simpa using h2, h3, .inr rfl⟩

end Go.Proofs.Ytglimhkpndfjgaa
/- GrantInOrder, in the program and in the reference; lists of numbers compared and marked. -/
namespace Go.Proofs.Ytglimhkpndfjgaa
open Go.ChangeShapes Go.WideShapes Go.ChangeAt Go.RowKit
set_option linter.unusedVariables false
set_option linter.unusedSimpArgs false
attribute [local irreducible] Calls

def gioL (g : Gr) (n : Nat) (P : Nat → Wt) (m : Nat) (Q : Nat → Pm) : List Nat := if validP g n P m Q then grantTo (grK g n P Q) m else []
def gioN (g : Gr) (n : Nat) (P : Nat → Wt) (m : Nat) (Q : Nat → Pm) : Nat := (gioL g n P m Q).length
def gioT (g : Gr) (n : Nat) (P : Nat → Wt) (m : Nat) (Q : Nat → Pm) : Unit × Int := ((), if validP g n P m Q then 0 else 1)
theorem gioN_eq (g : Gr) (n : Nat) (P : Nat → Wt) (m : Nat) (Q : Nat → Pm) : (gioL g n P m Q).length = gioN g n P m Q := rfl
theorem gioN_le {g : Gr} {n m : Nat} {P : Nat → Wt} {Q : Nat → Pm} : gioN g n P m Q ≤ 1048576 := by
  unfold gioN gioL
  cases hv : validP g n P m Q
  · simp
  · simp only [if_true]
    have := (grantTo_lt (grK g n P Q) m).2
    have := (validP_use hv).2.2.2.1
    omega

/-- n values. -/
def vls (n : Nat) (f : Nat → Value) : List Value := (List.range n).map f
theorem vls_get (n : Nat) (f : Nat → Value) (i : Nat) (h : i < n) : (vls n f)[i]? = some (f i) := by unfold vls; simp [h]
theorem vls_set (n : Nat) (f : Nat → Value) (k : Nat) (u : Value) : (vls n f).set k u = vls n (fun i => if i = k then u else f i) := by
  apply List.ext_getElem?
  intro i
  unfold vls
  rw [List.getElem?_set]
  by_cases hi : i < n
  · by_cases hk : k = i
    · subst hk; simp [hi]
    · simp [hi, hk, Ne.symm hk]
  · by_cases hk : k = i
    · subst hk; simp [hi]
    · simp [hi, hk]
theorem vls_congr {n : Nat} {f f' : Nat → Value} (h : ∀ i, i < n → f i = f' i) : vls n f = vls n f' := by
  unfold vls; exact List.map_congr_left fun i hi => h i (List.mem_range.1 hi)
theorem vls_of {n : Nat} {xs : List Value} (h : xs.length = n) : xs = vls n (fun i => xs.getD i undef) := by
  apply List.ext_getElem?
  intro i
  unfold vls
  by_cases hi : i < n
  · simp [hi, List.getD_eq_getElem?_getD, List.getElem?_eq_getElem (show i < xs.length by omega)]
  · simp [hi]; omega

end Go.Proofs.Ytglimhkpndfjgaa
/- Lists of numbers that a caller hands in: opened, copied, compared. -/
namespace Go.Proofs.Ytglimhkpndfjgaa
open Go.ChangeShapes Go.WideShapes Go.ChangeAt Go.RowKit
set_option linter.unusedVariables false
set_option linter.unusedSimpArgs false

/-- The slice v holds n numbers, f. -/
def ISl (w : World) (v : Value) (n : Nat) (f : Nat → Int) : Prop :=
  ∃ a cap, v = .slice a n cap ∧ n ≤ cap ∧ cap ≤ maxLen ∧ (n = 0 ∨ ∃ b o, a = some ⟨b, o, none⟩ ∧ b < w.heap.size ∧ ∀ i, i < n → w.cell? ⟨b, o + i, none⟩ = some (.int .i64 (f i)))
theorem ISl.below {w w' : World} {v : Value} {n : Nat} {f : Nat → Int} (h : ISl w v n f) (hb : Below w.heap.size w w') : ISl w' v n f := by
  obtain ⟨a, cap, rfl, h1, h2, h3⟩ := h
  refine ⟨a, cap, rfl, h1, h2, ?_⟩
  rcases h3 with h3 | ⟨b, o, rfl, hlt, hc⟩
  · exact .inl h3
  · exact .inr ⟨b, o, rfl, Nat.lt_of_lt_of_le hlt hb.size, fun i hi => (hb.cell (p := ⟨b, _, none⟩) hlt).trans (hc i hi)⟩
theorem Own.isl {w : World} {g : Nat} {e : TypeId} {v : Value} {n : Nat} {xs : List Value} {f : Nat → Int} (h : Own w g e 1 v n xs) (hx : ∀ i, i < n → xs[i]? = some (.int .i64 (f i))) : ISl w v n f := by
  obtain ⟨cap, rfl, h1, h2⟩ := h.form
  exact ⟨_, cap, rfl, h1, h2, .inr ⟨g, 0, rfl, h.lt, fun i hi => by rw [Nat.zero_add, h.cell _ (by omega)]; exact hx i hi⟩⟩

section
variable {H : Type} {enc : TypeId × Value → H} {W : World} {r : Reach} {b0 : Nat}
set_option maxRecDepth 100000 in
theorem ints_of_trod {fuel : Nat} {v : Value} {x : DataW H × List MemPlace} (h : DataW.trod enc Try.prog W 0 (fun _ => true) true fuel 37 [v] = some x) : ∃ n f, ISl W v n f ∧ n ≤ maxLen := by
  rcases Go.Deep.open_slice Try.underlying37 h with ⟨h1, _⟩ | ⟨a, len, cap, m, k, D, Pl, h1, _, hl, hm, hmm, _, hx⟩
  · obtain rfl : v = .slice none 0 0 := by simpa using h1
    exact ⟨0, fun _ => 0, ⟨none, 0, rfl, Nat.le_refl _, Nat.zero_le _, .inl rfl⟩, Nat.zero_le _⟩
  obtain rfl : v = .slice (some a) len cap := by simpa using h1
  have c1 : Try.prog.cellsOf 2 = 1 := by kernel_rfl
  have hlm : len ≤ m := by rw [hmm]; split <;> omega
  rw [c1] at hx
  obtain ⟨f, hf⟩ := Go.Deep.choose_lt (n := len) (p := fun i (q : Int) => W.cell? ((a.add (i * 1)).add 0) = some (.int .i64 q)) (fun i hi => by
    obtain ⟨cs', g1, g2⟩ := hx i (by omega)
    obtain ⟨q, hq, _, _⟩ := DataW.trod_int Try.underlying2 g2
    obtain ⟨_, hlen, hcell⟩ := World.cells?_some g1
    refine ⟨q, ?_⟩
    rw [hcell 0 (by omega), hq]; simp)
  refine ⟨len, f, ⟨some a, cap, rfl, hl, hm, ?_⟩, Nat.le_trans hl hm⟩
  by_cases h0 : len = 0
  · exact .inl h0
  · have hc0 := hf 0 (by omega)
    obtain ⟨b, o, spot⟩ := a
    have hspot : spot = none := by simpa [Addr.add] using World.cell?_spot hc0
    subst hspot
    refine .inr ⟨b, o, rfl, ?_, fun i hi => ?_⟩
    · have := lt_of_cell hc0
      simpa [add_plain] using this
    · have := hf i hi
      rw [add_plain, add_plain] at this
      simpa using this
set_option maxRecDepth 100000 in
theorem open_i64s {v : Value} {d : DataW H} {ps : List MemPlace} (hval : Value.okWide Try.prog W r b0 37 v) (h : DataW.Trod enc Try.prog W 0 (fun _ => true) true 37 v d ps) : ∃ p : Nat × (Nat → Int), ISl W v p.1 p.2 ∧ p.1 ≤ maxLen := by
  obtain ⟨a, len, cap, rfl⟩ := okWide_slice Try.underlying37 hval
  obtain ⟨fuel, hf⟩ := h
  obtain ⟨n, f, h1⟩ := ints_of_trod hf
  exact ⟨(n, f), h1⟩
end

@[irreducible] def zi (n : Nat) : Array Value := madeCells #[.int .i64 0] n
theorem zi_size (n : Nat) : (zi n).size = n := by unfold zi; rw [size_madeCells]
theorem run_makeI (n : Nat) (hn : n ≤ 1048576) (w : World) : (Instr.makeSlice 37 (.int .i64 n) (.int .i64 n)).run Try.prog w = .ok (.slice (some ⟨w.heap.size, 0, none⟩) n n) (w.alloc (.cells (zi n) 2)) := by
  obtain ⟨ht, i, z, hi, hz, hs, hb, hzs⟩ := elI64
  have hz2 : z.cells = #[.int .i64 0] := by
    have h0 : (Try.prog.info? 2).map (·.zero) = some (some (.int .i64 0)) := by kernel_rfl
    rw [hi] at h0
    simp [hz] at h0
    rw [h0]; rfl
  have hr := run_make (P := Try.prog) w _ _ i z ht hi hz .i64 .i64 n n (by omega) (Int.le_refl _) (by rw [hb]; omega) (by omega)
  rw [hr, hz2]
  simp [zi, hs]
attribute [local irreducible] Calls

/-- Are two lists of numbers the same? -/
def sameIL (n n' : Nat) (f f' : Nat → Int) : Bool := (n == n') && !anyTo (fun i => f i != f' i) (fun i => i) n

set_option maxRecDepth 100000 in
set_option maxHeartbeats 400000 in
theorem l00Same_any (n n' : Nat) (f f' : Nat → Int) (v u : Value) (w : World) (hv : ISl w v n f) (hu : ISl w u n' f') :
    Calls Try.prog 49 #[v, u] w fun e w' => e = .returned (.bool (sameIL n n' f f')) ∧ ∃ q, w' = w.drewN q := by
  obtain ⟨a, c, rfl, hc1, hc2, hcell⟩ := hv
  obtain ⟨a', c', rfl, hc1', hc2', hcell'⟩ := hu
  unfold maxLen at hc2 hc2'
  have HC := Lib.hid hcell
  have HC' := Lib.hid hcell'
  clear hcell hcell'
  have bn : (n : Int) ≤ 9223372036854775807 := by omega
  have bn' : (n' : Int) ≤ 9223372036854775807 := by omega
  obtain ⟨R, hR⟩ : ∃ R, R = sameIL n n' f f' := ⟨_, rfl⟩
  rw [← hR]
  unfold sameIL at hR
  have HR := Lib.hid hR
  clear hR
  by_cases hnn : n = n'
  · subst hnn
    obtain ⟨N, hN⟩ : ∃ N, N = n := ⟨_, rfl⟩
    subst hN
    go_enter Try.func49, Try.ntmps49
    go_upto_region 4 with fail
    go_loopw [5] (fun i wr => ∃ k q : Nat, k ≤ N ∧ i = .int .i64 k ∧ Hid (∀ j, j < k → (f j != f' j) = false) ∧ wr = w.drewN q) (fun i _ => N - (intOf i).toNat)
    case atStart => exact ⟨0, 0, by omega, rfl, Lib.hid (fun j hj => by omega), rfl⟩
    case round =>
      obtain ⟨k, q, hk, rfl, hq, rfl⟩ := hrel
      by_cases hlt : k < N
      · obtain ⟨b1, o1, rfl, lg, hcell⟩ := HC.out.resolve_left (by omega)
        obtain ⟨b2, o2, rfl, lg', hcell'⟩ := HC'.out.resolve_left (by omega)
        have m1 : (w.drewN q).cell? ⟨b1, o1 + k, none⟩ = some (.int .i64 (f k)) := hcell k hlt
        have m2 : (w.drewN q).cell? ⟨b2, o2 + k, none⟩ = some (.int .i64 (f' k)) := hcell' k hlt
        have bj : (0 : Int) ≤ k := by omega
        have bm : (k : Int) < N := by omega
        clear hcell hcell'
        go_upto_region 6 with fail
        generalize hW1 : w.drewN q = W1 at *
        refine wp_loose (C := fun w' => ∃ n, w' = W1.drewN n) (R := fun _ _ => True) (F := fun _ dd vv => match dd, vv with
          | 17, vv => vv = .slice (some ⟨b1, o1, none⟩) N c
          | 18, vv => vv = .int .i64 k
          | 19, vv => vv = .pointer (some ⟨b1, o1 + k, none⟩)
          | 20, vv => vv = .int .i64 (f k)
          | 21, vv => vv = .slice (some ⟨b2, o2, none⟩) N c'
          | 22, vv => vv = .int .i64 k
          | 23, vv => vv = .pointer (some ⟨b2, o2 + k, none⟩)
          | 24, vv => vv = .int .i64 (f' k)
          | 25, vv => vv = .bool (f k != f' k)
          | _, _ => True) (fun _ _ _ _ _ h => h) (by kernel_rfl) (by kernel_rfl) (by kernel_rfl) ⟨1, rfl⟩ ?_ ?_
        · refine steps_cons (step_go rfl fun ev w1 hC kn => ?_) ?_
          · have e1 : ev (.tmp 0) = .slice (some ⟨b1, o1, none⟩) N c := kn.out 0 rfl rfl rfl
            exact good_of (v := .slice (some ⟨b1, o1, none⟩) N c) rfl (by simp [execOp, e1, kn.con, go_sem]) hC trivial rfl
          refine steps_cons (step_go rfl fun ev w1 hC kn => ?_) ?_
          · have e1 : ev (.tmp 5) = .int .i64 k := kn.out 5 rfl rfl rfl
            exact good_of (v := .int .i64 k) rfl (by simp [execOp, e1, kn.con, go_sem]) hC trivial rfl
          refine steps_cons (step_go rfl fun ev w1 hC kn => ?_) ?_
          · have e1 : ev (.tmp 17) = .slice (some ⟨b1, o1, none⟩) N c := kn.inn 17 rfl rfl
            have e2 : ev (.tmp 18) = .int .i64 k := kn.inn 18 rfl rfl
            exact good_of (v := .pointer (some ⟨b1, o1 + k, none⟩)) rfl (by simp [execOp, e1, e2, kn.con, go_sem, bj, bm]) hC trivial rfl
          refine steps_cons (step_go rfl fun ev w1 hC kn => ?_) ?_
          · have e1 : ev (.tmp 19) = .pointer (some ⟨b1, o1 + k, none⟩) := kn.inn 19 rfl rfl
            obtain ⟨nn, rfl⟩ := hC
            exact good_of (v := .int .i64 (f k)) rfl (by simp [execOp, e1, go_sem, m1]) ⟨nn, rfl⟩ trivial rfl
          refine steps_cons (step_go rfl fun ev w1 hC kn => ?_) ?_
          · have e1 : ev (.tmp 1) = .slice (some ⟨b2, o2, none⟩) N c' := kn.out 1 rfl rfl rfl
            exact good_of (v := .slice (some ⟨b2, o2, none⟩) N c') rfl (by simp [execOp, e1, kn.con, go_sem]) hC trivial rfl
          refine steps_cons (step_go rfl fun ev w1 hC kn => ?_) ?_
          · have e1 : ev (.tmp 5) = .int .i64 k := kn.out 5 rfl rfl rfl
            exact good_of (v := .int .i64 k) rfl (by simp [execOp, e1, kn.con, go_sem]) hC trivial rfl
          refine steps_cons (step_go rfl fun ev w1 hC kn => ?_) ?_
          · have e1 : ev (.tmp 21) = .slice (some ⟨b2, o2, none⟩) N c' := kn.inn 21 rfl rfl
            have e2 : ev (.tmp 22) = .int .i64 k := kn.inn 22 rfl rfl
            exact good_of (v := .pointer (some ⟨b2, o2 + k, none⟩)) rfl (by simp [execOp, e1, e2, kn.con, go_sem, bj, bm]) hC trivial rfl
          refine steps_cons (step_go rfl fun ev w1 hC kn => ?_) ?_
          · have e1 : ev (.tmp 23) = .pointer (some ⟨b2, o2 + k, none⟩) := kn.inn 23 rfl rfl
            obtain ⟨nn, rfl⟩ := hC
            exact good_of (v := .int .i64 (f' k)) rfl (by simp [execOp, e1, go_sem, m2]) ⟨nn, rfl⟩ trivial rfl
          refine steps_cons (step_go rfl fun ev w1 hC kn => ?_) ?_
          · have e1 : ev (.tmp 20) = .int .i64 (f k) := kn.inn 20 rfl rfl
            have e2 : ev (.tmp 24) = .int .i64 (f' k) := kn.inn 24 rfl rfl
            exact good_of (v := .bool (f k != f' k)) rfl (by simp [execOp, e1, e2, kn.con, go_sem]) hC trivial rfl
          exact steps_nil
        rintro xv w1 hxv hC
        have y25 : xv 25 = .bool (f k != f' k) := hxv 25 (by decide)
        obtain ⟨n, rfl⟩ := hC
        simp only [fill, dstsOf, List.filterMap_cons, List.filterMap_nil, List.foldl_cons, List.foldl_nil, List.set_cons_succ, List.set_cons_zero, y25]
        clear hxv y25
        cases hv : (f k != f' k)
        · have HV := Lib.hid hv
          clear hv
          go_wp2_with fail
          go_roundw
          case rel => exact ⟨k + 1, q + n, by omega, by go_num, Lib.hid (fun j hj => by
            by_cases hjk : j < k
            · exact hq.out j hjk
            · obtain rfl : j = k := by omega
              exact HV.out), by rw [← hW1]; simp⟩
          case measure => simp [intOf]; omega
        · have HV := Lib.hid hv
          clear hv
          go_wp2_with fail
          go_ret
          exact ⟨bool_eq (by rw [HR.out, anyTo_true (q := fun i => f i != f' i) (P := fun i : Nat => i) (i := k) hlt HV.out]; simp), q + n, by rw [← hW1]; simp⟩
      · obtain rfl : k = N := by omega
        go_wp2_with fail
        go_ret
        exact ⟨bool_eq (by rw [HR.out, (anyTo_false (q := fun i => f i != f' i) (P := fun i : Nat => i)).2 hq.out]; simp), q, rfl⟩
  · have h1 : ((n : Int) != n') = true := by simp; omega
    go_enter Try.func49, Try.ntmps49
    go_wp2_with fail
    go_ret
    exact ⟨bool_eq (by rw [HR.out]; simp [hnn]), 0, rfl⟩

end Go.Proofs.Ytglimhkpndfjgaa
/- Wells: what is asked of an aquifer, wells, a place and times; the lists of drawdowns: the program's walks. -/
namespace Go.Proofs.Ytglimhkpndfjgaa
open Go.ChangeShapes Go.WideShapes Go.ChangeAt Go.RowKit
set_option linter.unusedVariables false
set_option linter.unusedSimpArgs false
attribute [local irreducible] Calls
set_option maxRecDepth 100000 in
set_option maxHeartbeats 400000 in
theorem validAquifer_any (T S : Nat) (h : aqOk T S = true) (w : World) :
    Calls Try.prog 15 #[.agg #[.float .f32 T, .float .f32 S]] w fun e w' => e = .returned (.bool true) ∧ Below w.heap.size w w' := by
  unfold aqOk at h
  simp only [Bool.and_eq_true] at h
  obtain ⟨⟨⟨h1, h2⟩, h3⟩, h4⟩ := h
  have t1 := fge_eq T 981467136
  have t2 := fle_eq T 1233125376
  have t3 := fge_eq S 897581056
  have t4 := fle_eq S 1065353216
  rw [h1] at t1
  rw [h2] at t2
  rw [h3] at t3
  rw [h4] at t4
  clear h1 h2 h3 h4
  go_enter Try.func15, Try.ntmps15
  go_wp2_with fail
  go_ret
  exact ⟨rfl, below1 _ _⟩
set_option maxRecDepth 100000 in
set_option maxHeartbeats 400000 in
theorem isMoment_any (n : Int) (h : 1 ≤ n ∧ n ≤ 100000) (w : World) :
    Calls Try.prog 83 #[.int .i64 n] w fun e w' => e = .returned (.bool true) ∧ w' = w := by
  have hin := fun w' => in_any n 1 100000 w'
  have e : (decide (1 ≤ n) && decide (n ≤ 100000)) = true := by simp; omega
  rw [e] at hin
  go_enter Try.func83, Try.ntmps83
  go_wp2_with (go_at_call 39; refine (hin _).mono ?_; rintro e w' ⟨rfl, hw⟩; rw [hw]; clear hw w')
  go_ret
  exact ⟨rfl, rfl⟩
theorem noBad {n : Nat} {P : Nat → Wl} (hP : ∀ i, i < n → WlD (P i)) : anyTo badL P n = false := anyTo_false.2 fun i hi => by
  have := (hP i hi).ok.2.2.1
  unfold badL; rw [this]; rfl
end Go.Proofs.Ytglimhkpndfjgaa
/- The lists of drawdowns: the program's walk. -/
namespace Go.Proofs.Ytglimhkpndfjgaa
open Go.ChangeShapes Go.WideShapes Go.ChangeAt Go.RowKit
set_option linter.unusedVariables false
set_option linter.unusedSimpArgs false
attribute [local irreducible] Calls
/-- The drawdown of the well i. -/
def ddF (T S : Nat) (P : Nat → Wl) (x y : Int) (time : Nat) (i : Nat) : Nat := ddX T S (P i).rt (x - (P i).px) (y - (P i).py) time
/-- What both lists are. -/
def GotDd (w : World) (n : Nat) (F : Nat → Nat) (e : Ending) (w' : World) : Prop := ∃ (v : Value) (g : Nat), e = .returned v ∧ w.heap.size ≤ g ∧ Own w' g 24 1 v n (fls n F) ∧ Below w.heap.size w w'
theorem elFW : ElemTy Try.prog 79 24 1 4 := elem_of (z := .float .f32 0) Try.underlying79 (by kernel_rfl) rfl
end Go.Proofs.Ytglimhkpndfjgaa
