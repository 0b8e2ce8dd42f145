import Derived.Test.YtdnnjahdcabdmaaGreatDoorMD43
import Derived.Test.YtdnnjahdcabdmaaGreatDoorMD32
import Derived.Test.YtdnnjahdcabdmaaGreatDoorMD02
/- What the reference asks of a ground's text: plain laws, begun; no statement is proved here. -/
namespace Go.Proofs.YtdnnjahdcabdmaaGreatDoor
open Go.ChangeShapes Go.WideShapes Go.ChangeAt Go.RowKit
set_option linter.unusedVariables false

/-- A row of a text that can be read. -/
def okRow (ws : List (List UInt8)) : Prop := ws.length = 4 ∧ (ws.getD 0 [] = [102, 114, 101, 101] ∨ ws.getD 0 [] = [102, 105, 120, 101, 100]) ∧ numC (ws.getD 1 []) = 0 ∧ numC (ws.getD 2 []) = 0 ∧ numC (ws.getD 3 []) = 0
/-- What the reference asks of a text. -/
structure SpecG (l : List UInt8) : Prop where
  two : (firstG l).length = 2
  wide : (decN ((firstG l).getD 0 [])).isSome = true
  high : (decN ((firstG l).getD 1 [])).isSome = true
  wb : 2 ≤ (gd0 l).wide ∧ (gd0 l).wide ≤ 8
  hb : 2 ≤ (gd0 l).high ∧ (gd0 l).high ≤ 8
  count : (splitL 10 l).length = (cellsTo (gd0 l) 64).length + 2
  last : (splitL 10 l).getD ((cellsTo (gd0 l) 64).length + 1) [0] = []
  rows : ∀ k, k < 64 → isC (gd0 l) k = true → okRow (wdG l k)
  valid : validG (gdR l) = true
theorem SpecG.fits {l : List UInt8} : Fits (gdR l) := fun k hk => by
  show numG l 1 k < _ ∧ numG l 2 k < _ ∧ numG l 3 k < _
  unfold numG
  split <;> exact ⟨by first | exact numB_lt _ | decide, by first | exact numB_lt _ | decide, by first | exact numB_lt _ | decide⟩
theorem isC_gdR (l : List UInt8) (k : Nat) : isC (gdR l) k = isC (gd0 l) k := rfl
theorem gdR_bare (l : List UInt8) : Bare (gdR l) := fun k hk hc => by
  rw [isC_gdR] at hc
  show numG l 1 k = _ ∧ numG l 2 k = _ ∧ numG l 3 k = _
  unfold numG
  rw [hc, Bool.and_false]
  simp
theorem gdR_ok {l : List UInt8} (h : SpecG l) : (gdR l).ok := by
  have h1 := h.wb
  have h2 := h.hb
  have h3 := mask_rngV ((cellsTo (gd0 l) 64).filter fun k => decide ((wdG l k).getD 0 [] = [102, 105, 120, 101, 100])) 0 (by decide)
  refine ⟨?_, ?_, h3⟩
  · show -128 ≤ (gd0 l).wide ∧ (gd0 l).wide ≤ 127; omega
  · show -128 ≤ (gd0 l).high ∧ (gd0 l).high ≤ 127; omega
theorem gdR_has {l : List UInt8} (h : SpecG l) : HasText (gdR l) := ⟨gdR_ok h, h.valid, gdR_bare l, SpecG.fits⟩
theorem gdR_fx {l : List UInt8} (h : SpecG l) {k : Nat} (hk : k < 64) (hc : isC (gd0 l) k = true) : isFxW (gdR l) k = decide ((wdG l k).getD 0 [] = [102, 105, 120, 101, 100]) := by
  rw [fx_lsbV (gdR_ok h) hk]
  show (bvV (maskOf ((cellsTo (gd0 l) 64).filter fun k => decide ((wdG l k).getD 0 [] = [102, 105, 120, 101, 100])))).getLsbD k = _
  unfold maskOf
  rw [mask_lsbV _ _ _ (fun j hj => (cellsTo_memV.1 (List.mem_filter.1 hj).1).1) hk]
  have h0 : (bvV 0).getLsbD k = false := by unfold bvV; simp
  rw [h0, Bool.false_or]
  apply decide_eq_decide.2
  rw [List.mem_filter, cellsTo_memV]
  simp [hk, hc]
theorem rowC_gdR {l : List UInt8} (h : SpecG l) {k : Nat} (hk : k < 64) (hc : isC (gd0 l) k = true) : rowC (gdR l) k = (splitL 10 l).getD (1 + (cellsTo (gd0 l) k).length) [] := by
  obtain ⟨h4, hw, n1, n2, n3⟩ := h.rows k hk hc
  have hg := glue_split 32 ((splitL 10 l).getD (1 + (cellsTo (gd0 l) k).length) [])
  rw [← hg]
  show _ = glue 32 (wdG l k)
  have hfx := gdR_fx h hk hc
  have c1 : (gdR l).con k = numB ((wdG l k).getD 1 []) := by show numG l 1 k = _; unfold numG; rw [hc, decide_eq_true hk]; rfl
  have c2 : (gdR l).gai k = numB ((wdG l k).getD 2 []) := by show numG l 2 k = _; unfold numG; rw [hc, decide_eq_true hk]; rfl
  have c3 : (gdR l).hea k = numB ((wdG l k).getD 3 []) := by show numG l 3 k = _; unfold numG; rw [hc, decide_eq_true hk]; rfl
  unfold rowC wordG
  rw [hfx, c1, c2, c3]
  generalize wdG l k = ws at *
  match ws, h4 with
  | [a, b, c, d], _ =>
    simp only [List.getD_cons_zero, List.getD_cons_succ] at hw n1 n2 n3 ⊢
    rw [(numC_txt n1).1, (numC_txt n2).1, (numC_txt n3).1]
    rcases hw with rfl | rfl <;> rfl
theorem headW_gdR {l : List UInt8} (h : SpecG l) : headW (gdR l) = (splitL 10 l).getD 0 [] := by
  have hg := glue_split 32 ((splitL 10 l).getD 0 [])
  rw [← hg]
  show _ = glue 32 (firstG l)
  obtain ⟨u, e1⟩ := Option.isSome_iff_exists.1 h.wide
  obtain ⟨v, e2⟩ := Option.isSome_iff_exists.1 h.high
  have h2 := h.two
  have hw : (gdR l).wide = (u : Int) := by show (((decN ((firstG l).getD 0 [])).getD 0 : Nat) : Int) = _; rw [e1]; rfl
  have hh : (gdR l).high = (v : Int) := by show (((decN ((firstG l).getD 1 [])).getD 0 : Nat) : Int) = _; rw [e2]; rfl
  unfold headW
  rw [hw, hh]
  generalize firstG l = ws at *
  match ws, h2 with
  | [a, b], _ =>
    simp only [List.getD_cons_zero, List.getD_cons_succ] at e1 e2
    rw [itoa_pos (z := ((u : Nat) : Int)) (by omega), itoa_pos (z := ((v : Nat) : Int)) (by omega), Int.toNat_natCast, Int.toNat_natCast, (decN_some e1).1, (decN_some e2).1]
theorem cellsTo_nodup (g : Gr) (n : Nat) : (cellsTo g n).Nodup := by
  unfold cellsTo; exact List.Pairwise.filter _ List.nodup_range
/-- Such a text is the text of the ground that it says. -/
theorem txt_gdR {l : List UInt8} (h : SpecG l) : txtGr (gdR l) = l := by
  rw [txtGr_lined]
  apply lined_of
  apply List.ext_getElem?
  intro i
  have hlen : ((cellsTo (gdR l) 64).map (rowC (gdR l))).length = (cellsTo (gd0 l) 64).length := by rw [List.length_map]; rfl
  have hct := h.count
  by_cases h0 : i = 0
  · subst h0
    rw [List.cons_append, List.getElem?_cons_zero, headW_gdR h, List.getD_eq_getElem?_getD, List.getElem?_eq_getElem (by omega)]
    rfl
  obtain ⟨j, rfl⟩ : ∃ j, i = j + 1 := ⟨i - 1, by omega⟩
  rw [List.cons_append, List.getElem?_cons_succ]
  by_cases hj : j < (cellsTo (gd0 l) 64).length
  · rw [List.getElem?_append_left (by omega), List.getElem?_map]
    obtain ⟨k, hk⟩ : ∃ k, (cellsTo (gd0 l) 64)[j]? = some k := ⟨_, List.getElem?_eq_getElem hj⟩
    have hk' : (cellsTo (gdR l) 64)[j]? = some k := hk
    have hm := cellsTo_lt (List.mem_of_getElem? hk)
    have hr := cellsTo_rank hm.2 64 hm.1
    have hjr : (cellsTo (gd0 l) k).length = j := by
      have hi1 := (List.getElem?_eq_some_iff.1 hr).1
      exact (List.getElem?_inj hi1 (cellsTo_nodup _ _)).1 (hr.trans hk.symm)
    rw [hk', Option.map_some, rowC_gdR h hm.1 hm.2, hjr, Nat.add_comm 1 j, List.getD_eq_getElem?_getD, List.getElem?_eq_getElem (by omega)]
    rfl
  · by_cases hl : j = (cellsTo (gd0 l) 64).length
    · subst hl
      have hla := h.last
      rw [List.getD_eq_getElem?_getD, List.getElem?_eq_getElem (by omega)] at hla
      rw [List.getElem?_append_right (by omega), hlen, Nat.sub_self, List.getElem?_eq_getElem (by omega)]
      exact congrArg some hla
    · rw [List.getElem?_eq_none (by omega), List.getElem?_eq_none (by simp [hlen] at *; omega)]
theorem any_congr {q q' : Nat → Bool} : ∀ {n : Nat}, (∀ i, i < n → q i = q' i) → anyTo q (fun i => i) n = anyTo q' (fun i => i) n := fun {n} h => by
  apply Bool.eq_iff_iff.2
  constructor
  · intro a
    cases hb : anyTo q' (fun i => i) n
    · have this : anyTo q (fun i => i) n = false := anyTo_false.2 fun i hi => by show q i = false; rw [h i hi]; exact anyTo_false.1 hb i hi
      rw [this] at a; cases a
    · rfl
  · intro a
    cases hb : anyTo q (fun i => i) n
    · have this : anyTo q' (fun i => i) n = false := anyTo_false.2 fun i hi => by show q' i = false; rw [← h i hi]; exact anyTo_false.1 hb i hi
      rw [this] at a; cases a
    · rfl
/-- Whether a ground is valid depends on its numbers alone. -/
theorem validG_same {g g' : Gr} (h0 : g.wide = g'.wide) (h1 : g.high = g'.high) (hf : g.fix = g'.fix) (h : ∀ k, k < 64 → g.con k = g'.con k ∧ g.gai k = g'.gai k ∧ g.hea k = g'.hea k) : validG g = validG g' := by
  have hi : ∀ k, isC g k = isC g' k := fun k => by unfold isC; rw [h0, h1]
  have hF : ∀ (q : Nat → Bool) (f f' : Nat → Nat), (∀ k, k < 64 → f k = f' k) → fieldIs q g f = fieldIs q g' f' := fun q f f' hff => by
    unfold fieldIs
    rw [any_congr (q := badAt q g f) (q' := badAt q g' f') fun i hi' => by unfold badAt; rw [hi i, hff i hi']]
  have hm : fixOk g = fixOk g' := by unfold fixOk; rw [hf, cellsTo_same h0 h1]
  unfold validG
  rw [h0, h1, hF amount g.con g'.con (fun k hk => (h k hk).1), hF plain g.gai g'.gai (fun k hk => (h k hk).2.1), hF plain g.hea g'.hea (fun k hk => (h k hk).2.2), hm]
/-- What the reference asks of a text is that some ground has it. -/
theorem goodG_iff (l : List UInt8) : (∃ g, HasText g ∧ l = txtGr g) ↔ SpecG l := by
  constructor
  · rintro ⟨g, h, rfl⟩
    obtain ⟨h0, h1⟩ := gd0_txt h
    obtain ⟨r0, r1, r2, r3⟩ := gdR_txt h
    have hv := validG_partsV h.valid
    have hct : cellsTo (gd0 (txtGr g)) 64 = cellsTo g 64 := cellsTo_same h0 h1 64
    have hf : firstG (txtGr g) = [Lib.itoa g.wide, Lib.itoa g.high] := by
      unfold firstG
      rw [split_txtGr h.fits]
      exact headW_words g
    have d1 := decN_digits (u := g.wide.toNat) (by omega)
    have d2 := decN_digits (u := g.high.toNat) (by omega)
    rw [← itoa_pos (by omega)] at d1 d2
    have hlen : (splitL 10 (txtGr g)).length = (cellsTo g 64).length + 2 := by rw [split_txtGr h.fits]; simp
    refine ⟨by rw [hf]; rfl, by rw [hf]; simp [d1], by rw [hf]; simp [d2], by rw [h0]; exact hv.1, by rw [h1]; exact hv.2.1, by rw [hct]; exact hlen, ?_, fun k hk hc => ?_, by rw [validG_same r0 r1 r2 r3]; exact h.valid⟩
    · rw [hct, split_txtGr h.fits, List.getD_eq_getElem?_getD, List.getElem?_append_right (by simp)]
      simp
    · have hc' : isC g k = true := by rw [← hc]; unfold isC; rw [h0, h1]
      obtain ⟨f1, f2, f3⟩ := h.fits k hk
      have p1 := plain_at hv.2.2.1 hk hc'
      have p2 := plain_at hv.2.2.2.1 hk hc'
      have p3 := plain_at hv.2.2.2.2.1 hk hc'
      have p1 : plain (g.con k) = true := by unfold amount at p1; exact (Bool.and_eq_true_iff.1 p1).1
      rw [wdG_txt h hk hc']
      refine ⟨rfl, ?_, (numB_txt p1 f1).2, (numB_txt p2 f2).2, (numB_txt p3 f3).2⟩
      show wordG g k = _ ∨ wordG g k = _
      unfold wordG
      cases isFxW g k
      · exact .inl rfl
      · exact .inr rfl
  · intro h
    exact ⟨gdR l, gdR_has h, (txt_gdR h).symm⟩
end Go.Proofs.YtdnnjahdcabdmaaGreatDoor
/- What the program asks of a ground's text: plain laws; no statement is proved here. -/
namespace Go.Proofs.YtdnnjahdcabdmaaGreatDoor
open Go.ChangeShapes Go.WideShapes Go.ChangeAt Go.RowKit
set_option linter.unusedVariables false

def wdOf (g0 : Gr) (l : List UInt8) (k : Nat) : List (List UInt8) := splitL 32 ((splitL 10 l).getD (1 + (cellsTo g0 k).length) [])
def numGd (g0 : Gr) (l : List UInt8) (i k : Nat) : Nat := if decide (k < 64) && isC g0 k then numB ((wdOf g0 l k).getD i []) else 0
/-- The ground that a text says, its sizes being known. -/
def gdOf (g0 : Gr) (l : List UInt8) : Gr := { g0 with con := numGd g0 l 1, gai := numGd g0 l 2, hea := numGd g0 l 3, fix := maskOf ((cellsTo g0 64).filter fun k => decide ((wdOf g0 l k).getD 0 [] = [102, 105, 120, 101, 100])) }
theorem gdR_of (l : List UInt8) : gdR l = gdOf (gd0 l) l := rfl
/-- The sizes that the program reads. -/
def gdI0 (l : List UInt8) : Gr := ⟨sizeZ (Lib.cut ((splitL 10 l).getD 0 []) [32]).1, sizeZ (Lib.cut ((splitL 10 l).getD 0 []) [32]).2.1, fun _ => 0, fun _ => 0, fun _ => 0, 0⟩
def gdI (l : List UInt8) : Gr := gdOf (gdI0 l) l
theorem sizeZ_bd (l : List UInt8) : 0 ≤ sizeZ l ∧ sizeZ l ≤ 8 := by
  unfold sizeZ; split
  · omega
  · omega
theorem sizeZ_dec {x : List UInt8} (h : (decN x).isSome = true) (h2 : 2 ≤ (((decN x).getD 0 : Nat) : Int) ∧ (((decN x).getD 0 : Nat) : Int) ≤ 8) : sizeZ x = (((decN x).getD 0 : Nat) : Int) := by
  obtain ⟨a, ha⟩ := Option.isSome_iff_exists.1 h
  rw [ha] at h2 ⊢
  simp only [Option.getD_some] at h2 ⊢
  rw [← (decN_some ha).1]
  exact sizeZ_digit (by omega)
theorem gdI0_spec {l : List UInt8} (h : SpecG l) : gdI0 l = gd0 l := by
  have h2 := h.two
  have hw := h.wide
  have hh := h.high
  have hwb := h.wb
  have hhb := h.hb
  have hc : ∃ x y, Lib.cut ((splitL 10 l).getD 0 []) [32] = (x, y, true) ∧ firstG l = [x, y] := by
    have hf : firstG l = splitL 32 ((splitL 10 l).getD 0 []) := rfl
    rcases cut_split 32 ((splitL 10 l).getD 0 []) with ⟨p, q, h3, h4⟩ | ⟨h3, h4⟩
    · rw [hf, h4] at h2
      have h5 : (splitL 32 q).length = 1 := by simpa using h2
      have h6 := glue_split 32 q
      match hs : splitL 32 q, h5 with
      | [b], _ =>
        rw [hs] at h6
        have h6 : b = q := h6
        exact ⟨p, q, h3, by rw [hf, h4, hs, h6]⟩
    · rw [hf, h4] at h2; simp at h2
  obtain ⟨x, y, h3, h4⟩ := hc
  unfold gdI0 gd0 at *
  rw [h4] at hw hh hwb hhb ⊢
  rw [h3]
  simp only [List.getD_cons_zero, List.getD_cons_succ] at hw hh hwb hhb ⊢
  rw [sizeZ_dec hw hwb, sizeZ_dec hh hhb]
theorem gdI_bare (l : List UInt8) : Bare (gdI l) := fun k hk hc => by
  have hc : isC (gdI0 l) k = false := hc
  show numGd _ l 1 k = _ ∧ numGd _ l 2 k = _ ∧ numGd _ l 3 k = _
  unfold numGd
  rw [hc, Bool.and_false]
  simp
theorem gdI_fits (l : List UInt8) : Fits (gdI l) := fun k hk => by
  show numGd _ l 1 k < _ ∧ numGd _ l 2 k < _ ∧ numGd _ l 3 k < _
  unfold numGd
  split <;> exact ⟨by first | exact numB_lt _ | decide, by first | exact numB_lt _ | decide, by first | exact numB_lt _ | decide⟩
theorem gdI_ok (l : List UInt8) : (gdI l).ok := by
  have h1 := sizeZ_bd (Lib.cut ((splitL 10 l).getD 0 []) [32]).1
  have h2 := sizeZ_bd (Lib.cut ((splitL 10 l).getD 0 []) [32]).2.1
  have h3 := mask_rngV ((cellsTo (gdI0 l) 64).filter fun k => decide ((wdOf (gdI0 l) l k).getD 0 [] = [102, 105, 120, 101, 100])) 0 (by decide)
  refine ⟨?_, ?_, h3⟩
  · show -128 ≤ sizeZ (Lib.cut ((splitL 10 l).getD 0 []) [32]).1 ∧ sizeZ (Lib.cut ((splitL 10 l).getD 0 []) [32]).1 ≤ 127; omega
  · show -128 ≤ sizeZ (Lib.cut ((splitL 10 l).getD 0 []) [32]).2.1 ∧ sizeZ (Lib.cut ((splitL 10 l).getD 0 []) [32]).2.1 ≤ 127; omega
/-- What the program asks of a text is what the reference asks. -/
theorem goodG_I (l : List UInt8) : SpecG l ↔ ((∀ k, k < 64 → isC (gdI0 l) k = true → 1 + (cellsTo (gdI0 l) k).length < (splitL 10 l).length ∧ (wdOf (gdI0 l) l k).length = 4) ∧ validG (gdI l) = true ∧ txtGr (gdI l) = l) := by
  constructor
  · intro h
    have e := gdI0_spec h
    have e2 : gdI l = gdR l := by unfold gdI; rw [e]; rfl
    rw [e2, e]
    refine ⟨fun k hk hc => ⟨?_, (h.rows k hk hc).1⟩, h.valid, txt_gdR h⟩
    have hr := (List.getElem?_eq_some_iff.1 (cellsTo_rank hc 64 hk)).1
    have := h.count
    omega
  · rintro ⟨h1, h2, h3⟩
    exact (goodG_iff l).1 ⟨gdI l, ⟨gdI_ok l, h2, gdI_bare l, gdI_fits l⟩, h3.symm⟩
theorem goodG_same {l : List UInt8} (h : SpecG l) : gdI l = gdR l := by
  unfold gdI; rw [gdI0_spec h]; rfl
end Go.Proofs.YtdnnjahdcabdmaaGreatDoor
/- A ground that a text says, read up to some of its cells: plain laws. -/
namespace Go.Proofs.YtdnnjahdcabdmaaGreatDoor
open Go.ChangeShapes Go.WideShapes Go.ChangeAt Go.RowKit
set_option linter.unusedVariables false

/-- The number that word i of cell k's line says. -/
def nmOf (g0 : Gr) (l : List UInt8) (i k : Nat) : Nat := numB ((wdOf g0 l k).getD i [])
def fxOf (g0 : Gr) (l : List UInt8) (k : Nat) : Bool := decide ((wdOf g0 l k).getD 0 [] = [102, 105, 120, 101, 100])
/-- The ground with the cells of a list. -/
def gdT (g0 : Gr) (l : List UInt8) (L : List Nat) : Gr := { g0 with con := fun k => if k ∈ L then nmOf g0 l 1 k else 0, gai := fun k => if k ∈ L then nmOf g0 l 2 k else 0, hea := fun k => if k ∈ L then nmOf g0 l 3 k else 0, fix := maskOf (L.filter (fxOf g0 l)) }
theorem gdT_nil {g0 : Gr} (l : List UInt8) (h : g0 = ⟨g0.wide, g0.high, fun _ => 0, fun _ => 0, fun _ => 0, 0⟩) : gdT g0 l [] = g0 := by
  rw [h]; unfold gdT; rfl
theorem upd_in (f : Nat → Nat) (L : List Nat) (c : Nat) : (fun k => if k ∈ L ++ [c] then f k else 0) = upd (fun k => if k ∈ L then f k else 0) c (f c) := by
  funext k
  unfold upd
  by_cases h : k = c
  · subst h; simp
  · simp [h]
theorem gdT_snoc (g0 : Gr) (l : List UInt8) (L : List Nat) (c : Nat) : gdT g0 l (L ++ [c]) = { gdT g0 l L with con := upd (gdT g0 l L).con c (nmOf g0 l 1 c), gai := upd (gdT g0 l L).gai c (nmOf g0 l 2 c), hea := upd (gdT g0 l L).hea c (nmOf g0 l 3 c), fix := if fxOf g0 l c then orB (gdT g0 l L).fix c else (gdT g0 l L).fix } := by
  unfold gdT
  simp only [upd_in]
  congr 1
  rw [List.filter_append]
  cases h : fxOf g0 l c
  · simp [h]
  · rw [if_pos rfl, show [c].filter (fxOf g0 l) = [c] by simp [h], maskOf_snoc]
theorem gdT_all (g0 : Gr) (l : List UInt8) : gdT g0 l (cellsTo g0 64) = gdOf g0 l := by
  have h : ∀ i, (fun k => if k ∈ cellsTo g0 64 then nmOf g0 l i k else 0) = numGd g0 l i := fun i => by
    funext k
    unfold numGd nmOf
    by_cases hk : k ∈ cellsTo g0 64
    · have := cellsTo_memV.1 hk
      rw [if_pos hk, this.2, decide_eq_true this.1]; rfl
    · rw [if_neg hk]
      by_cases h64 : k < 64
      · cases hc : isC g0 k
        · rw [Bool.and_false]; rfl
        · exact absurd (cellsTo_memV.2 ⟨h64, hc⟩) hk
      · rw [decide_eq_false h64, Bool.false_and]; rfl
  unfold gdT gdOf
  simp only [h]
  rfl
theorem gdT_ok {g0 : Gr} (h : g0.ok) (l : List UInt8) (L : List Nat) : (gdT g0 l L).ok := by
  obtain ⟨h1, h2, h3⟩ := h
  exact ⟨h1, h2, mask_rngV _ 0 (by decide)⟩
theorem isC_gdT (g0 : Gr) (l : List UInt8) (L : List Nat) (k : Nat) : isC (gdT g0 l L) k = isC g0 k := rfl
theorem take_cell {g : Gr} {j c : Nat} (h : (cellsTo g 64)[j]? = some c) : (cellsTo g c).length = j := by
  have hm := cellsTo_lt (List.mem_of_getElem? h)
  have hr := cellsTo_rank hm.2 64 hm.1
  have hi1 := (List.getElem?_eq_some_iff.1 hr).1
  exact (List.getElem?_inj hi1 (cellsTo_nodup _ _)).1 (hr.trans h.symm)
/-- What a text says that is no ground's. -/
theorem spec_bad {l : List UInt8} {k : Nat} (hk : k < 64) (hc : isC (gd0 l) k = true) (h : ¬ okRow (wdG l k)) : ¬ SpecG l := fun q => h (q.rows k hk hc)
end Go.Proofs.YtdnnjahdcabdmaaGreatDoor
/- ReadGround: what both walks keep while the ground is read. -/
namespace Go.Proofs.YtdnnjahdcabdmaaGreatDoor
open Go.ChangeShapes Go.WideShapes Go.ChangeAt Go.RowKit
set_option linter.unusedVariables false
set_option linter.unusedSimpArgs false

/-- The result's box, the ground's box, and two lists that are only read. -/
structure RG (w0 wr : World) (q0 q1 gA gB : Nat) (CA CB : Array Value) (tA tB : TypeId) (G : Gr) : Prop where
  b0 : Blk wr q0 zeroGr.cells 30
  b1 : Blk wr q1 G.cells 30
  bA : Blk wr gA CA tA
  bB : Blk wr gB CB tB
  bel : Below w0.heap.size w0 wr
  le : w0.heap.size ≤ q0 ∧ q0 < q1
  neA : gA ≠ q1
  neB : gB ≠ q1
section
variable {w0 wr w1 : World} {q0 q1 gA gB : Nat} {CA CB : Array Value} {tA tB : TypeId} {G : Gr}
theorem RG.below (h : RG w0 wr q0 q1 gA gB CA CB tA tB G) (hb : Below wr.heap.size wr w1) : RG w0 w1 q0 q1 gA gB CA CB tA tB G :=
  ⟨h.b0.below hb h.b0.lt, h.b1.below hb h.b1.lt, h.bA.below hb h.bA.lt, h.bB.below hb h.bB.lt, h.bel.trans (hb.mono h.bel.size), h.le, h.neA, h.neB⟩
theorem RG.drewN (h : RG w0 wr q0 q1 gA gB CA CB tA tB G) (n : Nat) : RG w0 (wr.drewN n) q0 q1 gA gB CA CB tA tB G :=
  ⟨h.b0.drewN n, h.b1.drewN n, h.bA.drewN n, h.bB.drewN n, below_drewN h.bel n, h.le, h.neA, h.neB⟩
theorem RG.put {G' : Gr} (h : RG w0 wr q0 q1 gA gB CA CB tA tB G) (hB : Blk w1 q1 G'.cells 30) (hg : wr.grownBy w1 (some q1)) : RG w0 w1 q0 q1 gA gB CA CB tA tB G' :=
  ⟨h.b0.grown hg (fun e => by injection e; have := h.le; omega), hB, h.bA.grown hg (fun e => by injection e with e; exact h.neA e.symm), h.bB.grown hg (fun e => by injection e with e; exact h.neB e.symm), h.bel.grown hg h.bel.size (fun k e => by injection e; have := h.le; omega), h.le, h.neA, h.neB⟩
theorem RG.cell {G' : Gr} (h : RG w0 wr q0 q1 gA gB CA CB tA tB G) (o : Nat) (v : Value) (hG : G.cells.setIfInBounds o v = G'.cells) : RG w0 (wr.setCell ⟨q1, o, none⟩ v) q0 q1 gA gB CA CB tA tB G' :=
  ⟨h.b0.setOther v (by have := h.le; show q0 ≠ q1; omega), by rw [← hG]; exact h.b1.setCell o v, h.bA.setOther v h.neA, h.bB.setOther v h.neB, h.bel.setCell (p := ⟨q1, o, none⟩) (by have := h.le; show w0.heap.size ≤ q1; omega) v, h.le, h.neA, h.neB⟩
theorem RG.drew (h : RG w0 wr q0 q1 gA gB CA CB tA tB G) : RG w0 wr.drew q0 q1 gA gB CA CB tA tB G := h.drewN 1
end
theorem zc_size : Tryz.zeroCells30.size = 195 := by rw [zeroCells_gr]; exact zeroGr.size
theorem zc_one : ∀ u ∈ Tryz.zeroCells30.toList, u.oneCell' = true := by rw [zeroCells_gr]; exact zeroGr.one
theorem own_cur {w : World} {g n : Nat} {e : TypeId} {v : Value} {xs : List Value} (h : Own w g e 1 v n xs) : ∃ cap cur, v = .slice (some ⟨g, 0, none⟩) n cap ∧ n ≤ cap ∧ cap ≤ maxLen ∧ Blk w g cur e ∧ ∀ j, j < n → cur[j]? = xs[j]? := by
  have h' := h
  obtain ⟨_, cap, cur, rfl, hb, h2, h3, _⟩ := h
  exact ⟨cap, cur, rfl, h2, h3, hb, fun j hj => (hb.cell j).symm.trans (h'.cell j (by omega))⟩
end Go.Proofs.YtdnnjahdcabdmaaGreatDoor
