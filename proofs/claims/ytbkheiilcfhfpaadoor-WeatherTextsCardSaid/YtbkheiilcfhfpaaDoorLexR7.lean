/- The lexer, plain: a name, a symbol, a number, a text in quotes. -/
import Derived.Test.YtbkheiilcfhfpaaDoorLexR5
import Derived.Test.YtbkheiilcfhfpaaDoorNameB
namespace Go.Proofs.YtbkheiilcfhfpaaDoor

theorem span_all {cs : List Nat} {l : List UInt8} (h : ∀ b ∈ l, cs.contains (cls b) = true) (x : List UInt8) (hx : ∀ b, x.head? = some b → cs.contains (cls b) = false) : spanC cs (l ++ x) = l.length := spanC_app h hx
theorem cons_head {l x : List UInt8} (h : 0 < l.length) : atC (l ++ x) 0 = atC l 0 := atC_app h
theorem head_stop {k : Int} {t x : List UInt8} (hk : k = 1 ∨ k = 2) (h : Stop k t x) : ∀ b, x.head? = some b → cls b ≠ 3 ∧ cls b ≠ 4 ∧ cls b ≠ 5 := by
  intro b hb
  have := h.1 hk
  rwa [atC_of_head hb] at this
theorem good_name {l : List UInt8} (h : nameB l = true) (p : Nat) : GoodT ⟨1, l, 0, p⟩ := by
  unfold nameB at h
  simp only [Bool.and_eq_true, decide_eq_true_eq] at h
  obtain ⟨⟨hw, h1, h2⟩, h3⟩ := h
  unfold wordsB at hw
  rw [List.all_eq_true] at hw
  refine ⟨⟨by show (1 : Int) ≤ 1; omega, by show (1 : Int) ≤ 4; omega⟩, by show l.length ≤ 400; omega, h1, ?_, fun x hx => ?_⟩
  · show atC l 0 ≠ 1 ∧ atC l 0 ≠ 2; omega
  · show tok1 (l ++ x) = .tok 1 l 0 l.length
    have hs : spanC [3, 4, 5] (l ++ x) = l.length := span_all hw x (fun b hb => contains345 (head_stop (.inl rfl) hx b hb))
    unfold tok1
    rw [cons_head h1, if_pos h3, hs, if_neg (by omega), List.take_left]
theorem good_num {l : List UInt8} (h1 : 0 < l.length) (h2 : l.length ≤ 13) (hd : ∀ b ∈ l, cls b = 4) (p : Nat) : GoodT ⟨2, l, (numV l : Int), p⟩ := by
  have h0 : atC l 0 = 4 := by
    obtain ⟨b, r, rfl⟩ := List.exists_cons_of_ne_nil (List.length_pos_iff.1 h1)
    exact hd b (by simp)
  refine ⟨⟨by show (1 : Int) ≤ 2; omega, by show (2 : Int) ≤ 4; omega⟩, by show l.length ≤ 400; omega, h1, ?_, fun x hx => ?_⟩
  · show atC l 0 ≠ 1 ∧ atC l 0 ≠ 2; omega
  · show tok1 (l ++ x) = .tok 2 l (numV l) l.length
    have hs : spanC [4] (l ++ x) = l.length := span_all (fun b hb => by rw [hd b hb]; decide) x (fun b hb => by have := (head_stop (.inr rfl) hx b hb).2.1; simp; exact this)
    have hst := hx.1 (.inr rfl)
    have ha : atC (l ++ x) l.length = atC x 0 := by
      rw [← head_drop_atC, List.drop_left]
    unfold tok1
    rw [cons_head h1, h0, if_neg (by decide), if_pos rfl, hs, ha, if_neg (by omega), List.take_left]
theorem good_str {l : List UInt8} (h2 : l.length ≤ 400) (hd : ∀ b ∈ l, ¬ b = 34 ∧ ¬ b = 10) (p : Nat) : GoodT ⟨3, l, 0, p⟩ := by
  have hwr : wrt 3 l = 34 :: (l ++ [34]) := rfl
  refine ⟨⟨by show (1 : Int) ≤ 3; omega, by show (3 : Int) ≤ 4; omega⟩, h2, by show 1 ≤ (wrt 3 l).length; rw [hwr]; simp, ?_, fun x _ => ?_⟩
  · show atC (wrt 3 l) 0 ≠ 1 ∧ atC (wrt 3 l) 0 ≠ 2
    have : atC (wrt 3 l) 0 = 6 := rfl
    omega
  · show tok1 (wrt 3 l ++ x) = .tok 3 l 0 (wrt 3 l).length
    rw [hwr]
    have hh : atC (34 :: (l ++ [34]) ++ x) 0 = 6 := rfl
    have htail : (34 :: (l ++ [34]) ++ x).tail = l ++ ([34] ++ x) := by simp
    have hi : Lib.indexAny (l ++ ([34] ++ x)) [34, 10] = l.length := by
      apply indexAny_is (c := 34)
      · rw [List.take_left]
        intro b hb
        have := hd b hb
        simp [this.1, this.2]
      · rw [List.getElem?_append_right (Nat.le_refl _), Nat.sub_self]; rfl
      · decide
    have e1 : ((l.length : Nat) : Int).toNat = l.length := by omega
    unfold tok1
    rw [hh, if_neg (by decide), if_neg (by decide), if_pos rfl, htail, hi, e1, if_neg, if_neg (by omega), List.take_left]
    · simp
    · rintro (h | h)
      · omega
      · rw [List.getElem?_append_right (Nat.le_refl _), Nat.sub_self] at h; simp at h
theorem good_sym {b : UInt8} (h : cls b = 8 ∨ cls b = 9) (p : Nat) : GoodT ⟨4, [b], 0, p⟩ := by
  refine ⟨⟨by show (1 : Int) ≤ 4; omega, by show (4 : Int) ≤ 4; omega⟩, by show 1 ≤ 400; omega, by show 1 ≤ 1; omega, ?_, fun x hx => ?_⟩
  · show cls b ≠ 1 ∧ cls b ≠ 2; omega
  · show tok1 (b :: x) = .tok 4 [b] 0 1
    have hh : atC (b :: x) 0 = cls b := rfl
    unfold tok1
    rw [hh, if_neg (by omega), if_neg (by omega), if_neg (by omega)]
    rcases h with h | h
    · have hx' := hx.2 rfl rfl (.inr h)
      rw [if_pos (.inr h), if_neg (show ¬ (b :: x).tail.head? = some 61 from hx'), if_neg (by omega)]; rfl
    · rw [if_neg (by omega), if_pos h]; rfl
/-- **the four of them, one after the other** -/
theorem lexR_words {nm d tx : List UInt8} {c : UInt8} (hn : nameB nm = true) (hc : cls c = 8 ∨ cls c = 9) (h1 : 0 < d.length) (h2 : d.length ≤ 13) (hd : ∀ b ∈ d, cls b = 4) (ht : tx.length ≤ 400) (htx : ∀ b ∈ tx, ¬ b = 34 ∧ ¬ b = 10) :
    lexR 0 (nm ++ (c :: (d ++ (34 :: (tx ++ [34]))))) = ([⟨1, nm, 0, 0⟩, ⟨4, [c], 0, nm.length⟩, ⟨2, d, (numV d : Int), nm.length + 1⟩, ⟨3, tx, 0, nm.length + 1 + d.length⟩], 0, 0) := by
  have g1 := good_name hn 0
  have g2 := good_sym hc nm.length
  have g3 := good_num h1 h2 hd (nm.length + 1)
  have g4 := good_str ht htx (nm.length + 1 + d.length)
  obtain ⟨b, r, hbr⟩ := List.exists_cons_of_ne_nil (List.length_pos_iff.1 h1)
  have hb4 : cls b = 4 := hd b (by rw [hbr]; simp)
  have st1 : Stop 1 nm (c :: (d ++ (34 :: (tx ++ [34])))) := by
    refine ⟨fun _ => ?_, fun h => by omega⟩
    show cls c ≠ 3 ∧ cls c ≠ 4 ∧ cls c ≠ 5; omega
  have st2 : Stop 4 [c] (d ++ (34 :: (tx ++ [34]))) := by
    refine ⟨fun h => by omega, fun _ _ _ => ?_⟩
    rw [hbr]
    show some b ≠ some 61
    intro e
    have : b = 61 := Option.some.inj e
    rw [this] at hb4
    exact absurd hb4 (by decide)
  have st3 : Stop 2 d (34 :: (tx ++ [34])) := by
    refine ⟨fun _ => ?_, fun h => by omega⟩
    show cls 34 ≠ 3 ∧ cls 34 ≠ 4 ∧ cls 34 ≠ 5; decide
  have f1 := lexR_front g1 0 _ st1
  have f2 := lexR_front g2 nm.length _ st2
  have f3 := lexR_front g3 (nm.length + 1) _ st3
  have f4 := lexR_one g4 (nm.length + 1 + d.length)
  have e1 : lexR 0 (nm ++ (c :: (d ++ (34 :: (tx ++ [34]))))) = joinR [⟨1, nm, 0, 0⟩] (lexR (0 + nm.length) (c :: (d ++ (34 :: (tx ++ [34]))))) := f1
  have e2 : lexR nm.length (c :: (d ++ (34 :: (tx ++ [34])))) = joinR [⟨4, [c], 0, nm.length⟩] (lexR (nm.length + 1) (d ++ (34 :: (tx ++ [34])))) := f2
  have e3 : lexR (nm.length + 1) (d ++ (34 :: (tx ++ [34]))) = joinR [⟨2, d, (numV d : Int), nm.length + 1⟩] (lexR (nm.length + 1 + d.length) (34 :: (tx ++ [34]))) := f3
  have e4 : lexR (nm.length + 1 + d.length) (34 :: (tx ++ [34])) = ([⟨3, tx, 0, nm.length + 1 + d.length⟩], 0, 0) := f4
  rw [e1, Nat.zero_add, e2, e3, e4]
  rfl
/-! ### digits -/
def decF : Nat → Nat → List UInt8
  | 0, _ => []
  | f + 1, n => if n < 10 then [UInt8.ofNat (48 + n)] else decF f (n / 10) ++ [UInt8.ofNat (48 + n % 10)]
theorem dig_nat {d : Nat} (h : d < 10) : (UInt8.ofNat (48 + d)).toNat = 48 + d ∧ cls (UInt8.ofNat (48 + d)) = 4 := by
  have : ∀ d : Nat, d < 10 → (UInt8.ofNat (48 + d)).toNat = 48 + d ∧ cls (UInt8.ofNat (48 + d)) = 4 := by decide
  exact this d h
theorem numV_snoc (l : List UInt8) (b : UInt8) : numV (l ++ [b]) = numV l * 10 + (b.toNat - 48) := by
  unfold numV; rw [List.foldl_append]; rfl
theorem decF_spec : ∀ (f n : Nat), n < 10 ^ f → 0 < f → 0 < (decF f n).length ∧ (decF f n).length ≤ f ∧ (∀ b ∈ decF f n, cls b = 4) ∧ numV (decF f n) = n
  | 0, _, _, h => by omega
  | f + 1, n, hn, _ => by
    unfold decF
    by_cases h : n < 10
    · rw [if_pos h]
      obtain ⟨d1, d2⟩ := dig_nat h
      refine ⟨by simp, by simp, by simpa using d2, ?_⟩
      show 0 * 10 + ((UInt8.ofNat (48 + n)).toNat - 48) = n
      rw [d1]; omega
    · rw [if_neg h]
      have hf : 0 < f := by
        rcases Nat.eq_zero_or_pos f with h0 | h0
        · subst h0; simp at hn; omega
        · exact h0
      have hq : n / 10 < 10 ^ f := by rw [Nat.pow_succ] at hn; omega
      obtain ⟨i1, i2, i3, i4⟩ := decF_spec f (n / 10) hq hf
      obtain ⟨d1, d2⟩ := dig_nat (d := n % 10) (by omega)
      refine ⟨by simp, by simp; omega, ?_, ?_⟩
      · intro b hb
        rw [List.mem_append, List.mem_singleton] at hb
        rcases hb with hb | rfl
        · exact i3 b hb
        · exact d2
      · rw [numV_snoc, i4, d1]; omega
end Go.Proofs.YtbkheiilcfhfpaaDoor
