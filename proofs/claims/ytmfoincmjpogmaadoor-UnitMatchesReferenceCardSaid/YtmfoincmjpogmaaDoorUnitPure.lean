/- unit: the plain law of strings: Parse of the canonical string gives the unit -/
import Derived.Test.YtmfoincmjpogmaaDoorUnitCut
import Derived.Test.YtmfoincmjpogmaaDoorUnitAlg
namespace Go.Proofs.YtmfoincmjpogmaaDoor
open Go.RowKit

/-- one factor taken -/
def stepU (u : U) (f : List UInt8) : U :=
  let k := if hasH f = true then atoiV (cutH f).2 else 1
  let ok := !hasH f || atoiB (cutH f).2
  ⟨if (cutH f).1 = nmC.data.toList ∧ ok = true then k else u.a, if (cutH f).1 = nmE.data.toList ∧ ok = true then k else u.b, if (cutH f).1 = nmS.data.toList ∧ ok = true then k else u.c⟩
def parseN (l : List UInt8) : U := (Lib.fieldsD l).foldl stepU u0
def parseOkB (l : List UInt8) : Bool := vB (parseN l) && decide ((textB (parseN l)).data.toList = l)
def parseU (l : List UInt8) : U := if parseOkB l = true then parseN l else u0
def parseE (l : List UInt8) : Int := if parseOkB l = true then 0 else 5

/-- all that is asked of a factor -/
def facOk (nm : ByteArray) (x : Int) : Bool :=
  (facS nm x).all fun f => decide ((cutH f.data.toList).1 = nm.data.toList) && ((hasH f.data.toList && atoiB (cutH f.data.toList).2 && decide (atoiV (cutH f.data.toList).2 = x)) || (!hasH f.data.toList && decide (x = 1)))
    && f.data.toList.all (fun b => !Lib.isSp b && decide (b.toNat < 128)) && !f.data.toList.isEmpty && decide (f.data.toList.length ≤ 12) && !decide (f.data.toList = [49])
def facOkAll : Bool := (List.range 17).all fun k => facOk nmC ((k : Int) - 8) && facOk nmE ((k : Int) - 8) && facOk nmS ((k : Int) - 8)
set_option maxRecDepth 100000 in
theorem facOkAll_true : facOkAll = true := by kernel_rfl
theorem facOk_of {x : Int} (h : -8 ≤ x ∧ x ≤ 8) : facOk nmC x = true ∧ facOk nmE x = true ∧ facOk nmS x = true := by
  have h1 := facOkAll_true
  unfold facOkAll at h1
  rw [List.all_eq_true] at h1
  have h2 := h1 (x + 8).toNat (by simp; omega)
  have e : (((x + 8).toNat : Nat) : Int) - 8 = x := by omega
  rw [e] at h2
  simpa [and_assoc] using h2

theorem fieldsGo_word : ∀ (x cur r : List UInt8), (∀ b ∈ x, Lib.isSp b = false) → Lib.fieldsGo cur (x ++ r) = Lib.fieldsGo (cur ++ x) r
  | [], cur, r, _ => by simp
  | b :: x, cur, r, h => by
    rw [List.cons_append, Lib.fieldsGo_more _ _ _ (h b (by simp)), fieldsGo_word x _ r (fun c hc => h c (by simp [hc]))]
    simp
theorem fieldsGo_nil (cur : List UInt8) : Lib.fieldsGo cur [] = if cur = [] then [] else [cur] := by
  cases cur <;> simp [Lib.fieldsGo]
def wordB (x : List UInt8) : Bool := x.all (fun b => !Lib.isSp b && decide (b.toNat < 128)) && !x.isEmpty
theorem wordB_sp {x : List UInt8} (h : wordB x = true) : ∀ b ∈ x, Lib.isSp b = false := by
  intro b hb; unfold wordB at h; simp at h; exact (h.1 b hb).1
theorem wordB_lo {x : List UInt8} (h : wordB x = true) : ∀ b ∈ x, b.toNat < 128 := by
  intro b hb; unfold wordB at h; simp at h; exact (h.1 b hb).2
theorem wordB_ne {x : List UInt8} (h : wordB x = true) : x ≠ [] := by
  intro e; subst e; simp [wordB] at h
theorem join_cons2 (x y : List UInt8) (r : List (List UInt8)) : Lib.join (x :: y :: r) [32] = x ++ 32 :: Lib.join (y :: r) [32] := by
  simp [Lib.join_cons, Lib.joinTail]
theorem join_one (x : List UInt8) : Lib.join [x] [32] = x := by simp [Lib.join_cons, Lib.joinTail]
theorem fields_join : ∀ (L : List (List UInt8)), (∀ x ∈ L, wordB x = true) → Lib.fields (Lib.join L [32]) = L
  | [], _ => by simp [Lib.join_nil, Lib.fields, Lib.fieldsGo]
  | [x], h => by
    have hx := h x (by simp)
    rw [join_one]
    unfold Lib.fields
    have := fieldsGo_word x [] [] (wordB_sp hx)
    rw [List.append_nil] at this
    rw [this, fieldsGo_nil, List.nil_append, if_neg (wordB_ne hx)]
  | x :: y :: r, h => by
    have hx := h x (by simp)
    have ih := fields_join (y :: r) (fun z hz => h z (by simp [hz]))
    rw [join_cons2]
    unfold Lib.fields at ih ⊢
    rw [fieldsGo_word x [] _ (wordB_sp hx), List.nil_append, Lib.fieldsGo_end _ _ _ (by decide) (wordB_ne hx), ih]
theorem join_lo (L : List (List UInt8)) (h : ∀ x ∈ L, wordB x = true) : ∀ b ∈ Lib.join L [32], b.toNat < 128 := by
  match L, h with
  | [], _ => intro b hb; simp [Lib.join_nil] at hb
  | [x], h => rw [join_one]; exact wordB_lo (h x (by simp))
  | x :: y :: r, h =>
    have ih := join_lo (y :: r) (fun z hz => h z (by simp [hz]))
    rw [join_cons2]
    intro b hb
    rw [List.mem_append, List.mem_cons] at hb
    rcases hb with hb | rfl | hb
    · exact wordB_lo (h x (by simp)) b hb
    · decide
    · exact ih b hb
theorem facS_of {nm : ByteArray} {x : Int} (h : facOk nm x = true) : facS nm x = [] ∧ x = 0 ∨ ∃ f, facS nm x = [f] ∧ x ≠ 0 ∧ wordB f.data.toList = true ∧ (cutH f.data.toList).1 = nm.data.toList ∧
    (hasH f.data.toList = true ∧ atoiB (cutH f.data.toList).2 = true ∧ atoiV (cutH f.data.toList).2 = x ∨ hasH f.data.toList = false ∧ x = 1) ∧ f.data.toList.length ≤ 12 ∧ f.data.toList ≠ [49] := by
  unfold facOk at h
  by_cases h0 : x = 0
  · exact .inl ⟨by simp [facS, h0], h0⟩
  · obtain ⟨f, hf⟩ : ∃ f, facS nm x = [f] := by unfold facS; rw [if_neg h0]; split <;> exact ⟨_, rfl⟩
    rw [hf] at h
    simp only [List.all_cons, List.all_nil, Bool.and_true, Bool.and_eq_true, decide_eq_true_eq, Bool.or_eq_true, Bool.not_eq_true', decide_eq_false_iff_not] at h
    obtain ⟨⟨⟨⟨⟨h1, h2⟩, h3⟩, h4⟩, h5⟩, h6⟩ := h
    refine .inr ⟨f, hf, h0, ?_, h1, ?_, h5, h6⟩
    · unfold wordB; rw [h3, h4]; rfl
    · rcases h2 with ⟨⟨h2, h7⟩, h8⟩ | ⟨h2, h7⟩
      · exact .inl ⟨h2, h7, h8⟩
      · exact .inr ⟨h2, h7⟩
theorem neCE : nmC.data ≠ nmE.data := by decide
theorem neCS : nmC.data ≠ nmS.data := by decide
theorem neES : nmE.data ≠ nmS.data := by decide
def facW (nm : ByteArray) (x : Int) : List (List UInt8) := (facS nm x).map (·.data.toList)
theorem step_C (u : U) {x : Int} (h : facOk nmC x = true) : (facW nmC x).foldl stepU u = if x = 0 then u else { u with a := x } := by
  unfold facW
  rcases facS_of h with ⟨h1, h0⟩ | ⟨f, hf, h0, hw, hc, hk, -, -⟩
  · rw [h1, if_pos h0]; rfl
  · rw [hf, if_neg h0]
    simp only [List.map_cons, List.map_nil, List.foldl_cons, List.foldl_nil, stepU]
    rw [hc]
    rcases hk with ⟨h2, h3, h4⟩ | ⟨h2, h3⟩
    · simp [h2, h3, h4, neCE, neCS]
    · simp [h2, h3, neCE, neCS]
theorem step_E (u : U) {x : Int} (h : facOk nmE x = true) : (facW nmE x).foldl stepU u = if x = 0 then u else { u with b := x } := by
  unfold facW
  rcases facS_of h with ⟨h1, h0⟩ | ⟨f, hf, h0, hw, hc, hk, -, -⟩
  · rw [h1, if_pos h0]; rfl
  · rw [hf, if_neg h0]
    simp only [List.map_cons, List.map_nil, List.foldl_cons, List.foldl_nil, stepU]
    rw [hc]
    rcases hk with ⟨h2, h3, h4⟩ | ⟨h2, h3⟩
    · simp [h2, h3, h4, neCE.symm, neES]
    · simp [h2, h3, neCE.symm, neES]
theorem step_S (u : U) {x : Int} (h : facOk nmS x = true) : (facW nmS x).foldl stepU u = if x = 0 then u else { u with c := x } := by
  unfold facW
  rcases facS_of h with ⟨h1, h0⟩ | ⟨f, hf, h0, hw, hc, hk, -, -⟩
  · rw [h1, if_pos h0]; rfl
  · rw [hf, if_neg h0]
    simp only [List.map_cons, List.map_nil, List.foldl_cons, List.foldl_nil, stepU]
    rw [hc]
    rcases hk with ⟨h2, h3, h4⟩ | ⟨h2, h3⟩
    · simp [h2, h3, h4, neCS.symm, neES.symm]
    · simp [h2, h3, neCS.symm, neES.symm]
theorem facW_word {nm : ByteArray} {x : Int} (h : facOk nm x = true) : ∀ f ∈ facW nm x, wordB f = true := by
  unfold facW
  rcases facS_of h with ⟨h1, -⟩ | ⟨f, hf, -, hw, -⟩
  · rw [h1]; simp
  · rw [hf]; simpa using hw
theorem facW_all (u : U) (h : vB u = true) : ∀ f ∈ facW nmC u.a ++ facW nmE u.b ++ facW nmS u.c, wordB f = true := by
  obtain ⟨h1, h2, h3⟩ := (vB_iff u).1 h
  intro f hf
  rw [List.mem_append, List.mem_append] at hf
  rcases hf with (hf | hf) | hf
  · exact facW_word (facOk_of h1).1 f hf
  · exact facW_word (facOk_of h2).2.1 f hf
  · exact facW_word (facOk_of h3).2.2 f hf
theorem facs_map (u : U) : (facs u 3).map (·.data.toList) = facW nmC u.a ++ facW nmE u.b ++ facW nmS u.c := by
  simp [facs, facW]
theorem one_fields : Lib.fieldsD [49] = [[49]] := by
  rw [Lib.fieldsD_ascii _ (by decide)]; rfl
theorem one_step : stepU u0 [49] = u0 := by kernel_rfl
/-- **Parse of the canonical string.** -/
theorem parseN_text (u : U) (h : vB u = true) : parseN (textB u).data.toList = u := by
  obtain ⟨h1, h2, h3⟩ := (vB_iff u).1 h
  unfold parseN textB
  have hfold : (facW nmC u.a ++ facW nmE u.b ++ facW nmS u.c).foldl stepU u0 = u := by
    rw [List.foldl_append, List.foldl_append, step_C _ (facOk_of h1).1, step_E _ (facOk_of h2).2.1, step_S _ (facOk_of h3).2.2]
    obtain ⟨a, b, c⟩ := u
    dsimp only [u0]
    by_cases ha : a = 0 <;> by_cases hb : b = 0 <;> by_cases hc : c = 0 <;> simp [ha, hb, hc]
  by_cases he : facs u 3 = []
  · rw [if_pos he]
    show (Lib.fieldsD [49]).foldl stepU u0 = u
    have e := facs_map u
    rw [he, List.map_nil] at e
    rw [← e] at hfold
    rw [one_fields]
    simp only [List.foldl_cons, List.foldl_nil] at hfold ⊢
    rw [one_step, hfold]
  · rw [if_neg he]
    show (Lib.fieldsD (Lib.join ((facs u 3).map (·.data.toList)) [32])).foldl stepU u0 = u
    rw [facs_map, Lib.fieldsD_ascii _ (join_lo _ (facW_all u h)), fields_join _ (facW_all u h), hfold]
theorem textB_inj {u v : U} (hu : vB u = true) (hv : vB v = true) (h : textB u = textB v) : u = v := by
  rw [← parseN_text u hu, ← parseN_text v hv, h]
theorem parse_text (u : U) (h : vB u = true) : parseU (textB u).data.toList = u ∧ parseE (textB u).data.toList = 0 := by
  unfold parseU parseE parseOkB
  rw [parseN_text u h, h]
  simp
theorem parse_ok {l : List UInt8} (h : parseE l = 0) : vB (parseU l) = true ∧ (textB (parseU l)).data.toList = l := by
  unfold parseE at h
  by_cases hp : parseOkB l = true
  · unfold parseU
    rw [if_pos hp]
    unfold parseOkB at hp
    simpa using hp
  · rw [if_neg hp] at h; cases h
theorem parse_not {l : List UInt8} (h : parseE l ≠ 0) : parseE l = 5 ∧ parseU l = u0 := by
  unfold parseE parseU at *
  by_cases hp : parseOkB l = true
  · rw [if_pos hp] at h; exact absurd rfl h
  · rw [if_neg hp, if_neg hp]; exact ⟨rfl, rfl⟩
end Go.Proofs.YtmfoincmjpogmaaDoor
