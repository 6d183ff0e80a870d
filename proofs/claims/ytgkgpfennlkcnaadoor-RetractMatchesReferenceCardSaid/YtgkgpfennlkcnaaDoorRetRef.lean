/- retract: the reference's rounds, in plain Lean -/
import Derived.Test.YtgkgpfennlkcnaaDoorRetBec
import Derived.Test.YtgkgpfennlkcnaaDoorRetSupp
namespace Go.Proofs.YtgkgpfennlkcnaaDoor

def iter {α : Type} (f : α → α) : Nat → α → α
  | 0, x => x
  | n + 1, x => iter f n (f x)
theorem iter_out {α : Type} (f : α → α) : ∀ n x, iter f (n + 1) x = f (iter f n x)
  | 0, _ => rfl
  | n + 1, x => iter_out f n (f x)
theorem iter_fix {α : Type} {f : α → α} {x : α} (h : f x = x) : ∀ n, iter f n x = x
  | 0 => rfl
  | n + 1 => by show iter f n (f x) = x; rw [h]; exact iter_fix h n
/-- what grows at each step, and cannot for ever, stands still -/
theorem iter_still {α : Type} {f : α → α} {μ : α → Nat} {p : α → Prop} (hp : ∀ x, p x → p (f x)) (h : ∀ x, p x → f x = x ∨ μ (f x) < μ x) : ∀ n x, p x → μ x ≤ n → f (iter f n x) = iter f n x
  | 0, x, px, hx => by
    rcases h x px with q | q
    · exact q
    · omega
  | n + 1, x, px, hx => by
    show f (iter f n (f x)) = iter f n (f x)
    rcases h x px with q | q
    · rw [q]; rw [iter_fix q]; exact q
    · exact iter_still hp h n (f x) (hp x px) (by omega)
/-- the index of the first entry with an Id; the length if there is none -/
def idx (P : List En) (c : ByteArray) : Nat := P.findIdx (fun e => decide (e.id = c))
theorem idx_get {P : List En} {c : ByteArray} (h : idx P c < P.length) : ∃ e, P[idx P c]? = some e ∧ e.id = c := by
  refine ⟨P[idx P c], List.getElem?_eq_getElem h, ?_⟩
  have := List.findIdx_getElem (p := fun e : En => decide (e.id = c)) (xs := P) (w := h)
  exact of_decide_eq_true this
theorem idx_of {P : List En} (hd : Dist P) {i : Nat} {e : En} (he : P[i]? = some e) : idx P e.id = i := by
  have hil := (List.getElem?_eq_some_iff.1 he).1
  have hlt : idx P e.id < P.length := List.findIdx_lt_length_of_exists ⟨e, List.mem_of_getElem? he, decide_eq_true rfl⟩
  obtain ⟨d, h1, h2⟩ := idx_get hlt
  exact hd _ _ d e h1 he h2
/-! ### Supported -/
def applies (P : List En) (R : List ByteArray) (out : List Bool) (e : En) : Bool :=
  !decide (e.id ∈ R) && (e.cs.isEmpty || e.cs.any (fun c => at0 out (idx P c)))
def stepM (P : List En) (R : List ByteArray) (out : List Bool) (i : Nat) : List Bool :=
  match P[i]? with
  | none => out
  | some e => if applies P R out e = true then out.set i true else out
def passM (P : List En) (R : List ByteArray) (k : Nat) (out : List Bool) : List Bool := (List.range k).foldl (stepM P R) out
theorem passM_succ (P : List En) (R : List ByteArray) (k : Nat) (out : List Bool) : passM P R (k + 1) out = stepM P R (passM P R k out) k := by
  unfold passM
  rw [List.range_succ, List.foldl_append]
  rfl
def supM (P : List En) (R : List ByteArray) : List Bool := iter (passM P R P.length) (P.length + 1) (List.replicate P.length false)
theorem stepM_len (P : List En) (R : List ByteArray) (out : List Bool) (i : Nat) : (stepM P R out i).length = out.length := by
  unfold stepM
  split
  · rfl
  · split <;> simp
theorem passM_len (P : List En) (R : List ByteArray) (k : Nat) (out : List Bool) : (passM P R k out).length = out.length := by
  induction k with
  | zero => rfl
  | succ k ih => rw [passM_succ, stepM_len, ih]
theorem at0_mono_set {l : List Bool} {i j : Nat} (h : at0 l j = true) : at0 (l.set i true) j = true := by
  by_cases hi : i < l.length
  · rw [at0_set l i j hi]
    split
    · rfl
    · exact h
  · rw [List.set_eq_of_length_le (by omega)]; exact h
theorem stepM_mono {P : List En} {R : List ByteArray} {out : List Bool} {i j : Nat} (h : at0 out j = true) : at0 (stepM P R out i) j = true := by
  unfold stepM
  split
  · exact h
  · split
    · exact at0_mono_set h
    · exact h
theorem passM_mono {P : List En} {R : List ByteArray} {out : List Bool} {j : Nat} (h : at0 out j = true) : ∀ k, at0 (passM P R k out) j = true
  | 0 => h
  | k + 1 => by rw [passM_succ]; exact stepM_mono (passM_mono h k)
theorem applies_mono {P : List En} {R : List ByteArray} {a b : List Bool} {e : En} (hm : ∀ j, at0 a j = true → at0 b j = true) (h : applies P R a e = true) : applies P R b e = true := by
  unfold applies at h ⊢
  simp only [Bool.and_eq_true, Bool.or_eq_true, List.any_eq_true] at h ⊢
  refine ⟨h.1, h.2.imp id ?_⟩
  rintro ⟨c, h1, h2⟩
  exact ⟨c, h1, hm _ h2⟩
/-- a pass does what applies -/
theorem passM_does {P : List En} {R : List ByteArray} {out : List Bool} {i : Nat} {e : En} (he : P[i]? = some e) (ho : out.length = P.length) (ha : applies P R out e = true) : ∀ k, i < k → at0 (passM P R k out) i = true := by
  intro k hk
  induction k with
  | zero => omega
  | succ k ih =>
    rw [passM_succ]
    by_cases h : i = k
    · subst h
      unfold stepM
      rw [he]
      simp only
      rw [if_pos (applies_mono (fun j hj => passM_mono hj i) ha), at0_set _ _ _ (by rw [passM_len, ho]; exact (List.getElem?_eq_some_iff.1 he).1), if_pos rfl]
    · exact stepM_mono (ih (by omega))
/-- only what is supported is said to be -/
def Sound (P : List En) (R : List ByteArray) (out : List Bool) : Prop := ∀ i e, P[i]? = some e → at0 out i = true → Sup P R e.id
theorem Sound.step {P : List En} {R : List ByteArray} {out : List Bool} (h : Sound P R out) (ho : out.length = P.length) (i : Nat) : Sound P R (stepM P R out i) := by
  unfold stepM
  split
  · exact h
  · rename_i e he
    split
    · rename_i ha
      intro j d hd hj
      rw [at0_set _ _ _ (by rw [ho]; exact (List.getElem?_eq_some_iff.1 he).1)] at hj
      by_cases q : i = j
      · subst q
        rw [he] at hd
        cases hd
        unfold applies at ha
        simp only [Bool.and_eq_true, Bool.or_eq_true, List.any_eq_true, Bool.not_eq_true', decide_eq_false_iff_not] at ha
        rcases ha.2 with h1 | ⟨c, h1, h2⟩
        · exact .root e (List.mem_of_getElem? he) ha.1 (List.isEmpty_iff.1 h1)
        · have hlt : idx P c < P.length := by
            rw [← ho]
            apply Classical.byContradiction
            intro q
            unfold at0 at h2
            rw [List.getD, List.getElem?_eq_none (by omega)] at h2
            cases h2
          obtain ⟨d, h3, h4⟩ := idx_get hlt
          have := h _ d h3 h2
          rw [h4] at this
          exact .eff e (List.mem_of_getElem? he) ha.1 c h1 this
      · rw [if_neg q] at hj
        exact h j d hd hj
    · exact h
theorem Sound.pass {P : List En} {R : List ByteArray} {out : List Bool} (h : Sound P R out) (ho : out.length = P.length) : ∀ k, Sound P R (passM P R k out)
  | 0 => h
  | k + 1 => by rw [passM_succ]; exact (Sound.pass h ho k).step (by rw [passM_len, ho]) k
theorem Sound.iter {P : List En} {R : List ByteArray} (k : Nat) : ∀ n out, Sound P R out → out.length = P.length → Sound P R (iter (passM P R k) n out) ∧ (iter (passM P R k) n out).length = P.length
  | 0, out, h, ho => ⟨h, ho⟩
  | n + 1, out, h, ho => Sound.iter k n _ (h.pass ho k) (by rw [passM_len, ho])
theorem count_mono : ∀ {a b : List Bool}, a.length = b.length → (∀ j, at0 a j = true → at0 b j = true) → a = b ∨ b.count false < a.count false
  | [], [], _, _ => .inl rfl
  | [], _ :: _, h, _ => by simp at h
  | _ :: _, [], h, _ => by simp at h
  | x :: a, y :: b, h, hm => by
    have ih := count_mono (a := a) (b := b) (by simpa using h) (fun j hj => hm (j + 1) hj)
    have h0 : x = true → y = true := hm 0
    have hle : b.count false ≤ a.count false := by rcases ih with q | q; rw [q]; exact Nat.le_refl _; omega
    cases x <;> cases y
    · rcases ih with q | q
      · exact .inl (by rw [q])
      · right; simp only [List.count_cons_self]; omega
    · right; simp only [List.count_cons]; simp; omega
    · exact absurd (h0 rfl) (by simp)
    · rcases ih with q | q
      · exact .inl (by rw [q])
      · right; simp only [List.count_cons]; simp; omega
theorem supB_iff {L : List Ent} {R : List ByteArray} {c : ByteArray} : supB L R c = true ↔ Sup (ps L) R c := by unfold supB; simp
theorem supM_is {L : List Ent} {R : List ByteArray} (hv : ValidL L) : supM (ps L) R = supL L R := by
  have hd := ps_dist hv.2.1
  have hs : Sound (ps L) R (List.replicate (ps L).length false) := by
    intro i e _ h
    unfold at0 at h
    rw [List.getD, List.getElem?_replicate] at h
    split at h <;> simp at h
  obtain ⟨h1, h2⟩ := Sound.iter (ps L).length ((ps L).length + 1) _ hs (by simp)
  have hpl : (ps L).length = L.length := by simp [ps]
  have hfix : passM (ps L) R (ps L).length (supM (ps L) R) = supM (ps L) R := by
    unfold supM
    refine iter_still (μ := fun l => l.count false) (p := fun l => l.length = (ps L).length) (fun x px => by rw [passM_len]; exact px) (fun x px => ?_) _ _ (by simp) (by rw [List.count_replicate]; simp)
    rcases count_mono (a := x) (b := passM (ps L) R (ps L).length x) (by rw [passM_len]) (fun j hj => passM_mono hj _) with q | q
    · exact .inl q.symm
    · exact .inr q
  have hcl : ∀ i e, (ps L)[i]? = some e → applies (ps L) R (supM (ps L) R) e = true → at0 (supM (ps L) R) i = true := by
    intro i e he ha
    rw [← hfix]
    exact passM_does he h2 ha _ (List.getElem?_eq_some_iff.1 he).1
  have hall : ∀ c, Sup (ps L) R c → ∀ i e, (ps L)[i]? = some e → e.id = c → at0 (supM (ps L) R) i = true := by
    intro c hc
    induction hc with
    | root d h hr hc =>
      intro i e he hi
      have := hd.eq h (List.mem_of_getElem? he) hi.symm
      subst this
      refine hcl i _ he ?_
      unfold applies
      rw [decide_eq_false hr, hc]; rfl
    | eff d h hr c hc hs ih =>
      intro i e he hi
      have := hd.eq h (List.mem_of_getElem? he) hi.symm
      subst this
      refine hcl i _ he ?_
      unfold applies
      rw [decide_eq_false hr]
      simp only [Bool.not_false, Bool.true_and, Bool.or_eq_true, List.any_eq_true]
      refine .inr ⟨c, hc, ?_⟩
      have hcm : ∃ d, d ∈ ps L ∧ d.id = c := by cases hs <;> exact ⟨_, by assumption, rfl⟩
      obtain ⟨d2, hd2, rfl⟩ := hcm
      obtain ⟨j, hj⟩ := List.mem_iff_getElem?.1 hd2
      rw [idx_of hd hj]
      exact ih j d2 hj rfl
  apply List.ext_getElem?
  intro i
  by_cases hi : i < L.length
  · obtain ⟨e, he⟩ : ∃ e, L[i]? = some e := ⟨_, List.getElem?_eq_getElem hi⟩
    rw [supL_get he]
    have hil : i < (supM (ps L) R).length := by unfold supM; rw [h2, hpl]; exact hi
    have hg : (supM (ps L) R)[i]? = some (at0 (supM (ps L) R) i) := by
      unfold at0
      rw [List.getD, List.getElem?_eq_getElem hil]; rfl
    rw [hg]
    congr 1
    have he' : (ps L)[i]? = some e.p := ps_get.2 ⟨e, he, rfl⟩
    rw [Bool.eq_iff_iff, supB_iff]
    exact ⟨fun k => h1 i _ he' k, fun q => hall _ q i _ he' rfl⟩
  · rw [List.getElem?_eq_none (by unfold supM; rw [h2, hpl]; omega), List.getElem?_eq_none (by rw [supL_len]; omega)]
/-! ### Because -/
def chAt (C : List (List ByteArray)) (i : Nat) : List ByteArray := C.getD i []
/-- the least of an entry's candidates -/
def pick (P : List En) (C : List (List ByteArray)) (id : ByteArray) : List ByteArray → List ByteArray → List ByteArray
  | g, [] => g
  | g, c :: cs =>
    if chAt C (idx P c) = [] then pick P C id g cs
    else if g = [] ∨ cmpCh (chAt C (idx P c) ++ [id]) g < 0 then pick P C id (chAt C (idx P c) ++ [id]) cs
    else pick P C id g cs
def linkM (P : List En) (C : List (List ByteArray)) (e : En) (x : List ByteArray) : List ByteArray :=
  if x ≠ [] then x else pick P C e.id (if e.cs = [] then [e.id] else []) e.cs
def roundM (P : List En) (C : List (List ByteArray)) : List (List ByteArray) := (P.zip C).map fun p => linkM P C p.1 p.2
def chM (P : List En) : List (List ByteArray) := iter (roundM P) P.length (List.replicate P.length [])
def becM (P : List En) (id : ByteArray) : List ByteArray × Int := if chAt (chM P) (idx P id) = [] then ([], 10) else (chAt (chM P) (idx P id), 0)
theorem roundM_len {P : List En} {C : List (List ByteArray)} (h : C.length = P.length) : (roundM P C).length = P.length := by unfold roundM; simp [h]
theorem roundM_get {P : List En} {C : List (List ByteArray)} (h : C.length = P.length) {i : Nat} {e : En} (he : P[i]? = some e) : chAt (roundM P C) i = linkM P C e (chAt C i) := by
  have hi := (List.getElem?_eq_some_iff.1 he).1
  unfold roundM chAt
  rw [List.getD, List.getElem?_map]
  have hc : C[i]? = some (C.getD i []) := by rw [List.getD, List.getElem?_eq_getElem (by omega)]; rfl
  rw [(List.getElem?_zip_eq_some (z := (e, C.getD i []))).2 ⟨he, hc⟩]
  rfl
/-- what pick picks: the least of the candidates, and of what was there -/
theorem pick_is (P : List En) (C : List (List ByteArray)) (id : ByteArray) : ∀ (cs : List ByteArray) (g : List ByteArray),
    (pick P C id g cs = [] ∧ g = [] ∧ ∀ c ∈ cs, chAt C (idx P c) = []) ∨
    (pick P C id g cs ≠ [] ∧ (pick P C id g cs = g ∨ ∃ c ∈ cs, chAt C (idx P c) ≠ [] ∧ pick P C id g cs = chAt C (idx P c) ++ [id]) ∧
      (g ≠ [] → ¬ cmpCh g (pick P C id g cs) < 0) ∧ ∀ c ∈ cs, chAt C (idx P c) ≠ [] → ¬ cmpCh (chAt C (idx P c) ++ [id]) (pick P C id g cs) < 0)
  | [], g => by
    unfold pick
    by_cases h : g = []
    · exact .inl ⟨h, h, by simp⟩
    · refine .inr ⟨h, .inl rfl, fun _ => ?_, by simp⟩
      have := (ch_good.zero g g).2 rfl
      omega
  | c :: cs, g => by
    unfold pick
    by_cases h : chAt C (idx P c) = []
    · rw [if_pos h]
      rcases pick_is P C id cs g with ⟨h1, h2, h3⟩ | ⟨h1, h2, h3, h4⟩
      · exact .inl ⟨h1, h2, by simpa [h] using h3⟩
      · refine .inr ⟨h1, ?_, h3, ?_⟩
        · rcases h2 with h2 | ⟨d, h2, h5⟩
          · exact .inl h2
          · exact .inr ⟨d, List.mem_cons_of_mem _ h2, h5⟩
        · intro d hd hn
          rcases List.mem_cons.1 hd with rfl | hd
          · exact absurd h hn
          · exact h4 d hd hn
    · rw [if_neg h]
      have hne : chAt C (idx P c) ++ [id] ≠ [] := by simp
      by_cases hl : g = [] ∨ cmpCh (chAt C (idx P c) ++ [id]) g < 0
      · rw [if_pos hl]
        rcases pick_is P C id cs (chAt C (idx P c) ++ [id]) with ⟨h1, h2, h3⟩ | ⟨h1, h2, h3, h4⟩
        · exact absurd h2 hne
        · refine .inr ⟨h1, .inr ?_, fun hg => ?_, ?_⟩
          · rcases h2 with h2 | ⟨d, h2, h5⟩
            · exact ⟨c, List.mem_cons_self, h, h2⟩
            · exact ⟨d, List.mem_cons_of_mem _ h2, h5⟩
          · have h6 := h3 hne
            rcases hl with hl | hl
            · exact absurd hl hg
            · have h7 : ¬ cmpCh g (chAt C (idx P c) ++ [id]) < 0 := by
                have a := ch_good.neg (chAt C (idx P c) ++ [id]) g
                omega
              exact ch_good.tr h6 h7
          · intro d hd hn
            rcases List.mem_cons.1 hd with rfl | hd
            · exact h3 hne
            · exact h4 d hd hn
      · rw [if_neg hl]
        have hg : g ≠ [] := fun q => hl (.inl q)
        have hl' : ¬ cmpCh (chAt C (idx P c) ++ [id]) g < 0 := fun q => hl (.inr q)
        rcases pick_is P C id cs g with ⟨h1, h2, h3⟩ | ⟨h1, h2, h3, h4⟩
        · exact absurd h2 hg
        · refine .inr ⟨h1, ?_, h3, ?_⟩
          · rcases h2 with h2 | ⟨d, h2, h5⟩
            · exact .inl h2
            · exact .inr ⟨d, List.mem_cons_of_mem _ h2, h5⟩
          · intro d hd hn
            rcases List.mem_cons.1 hd with rfl | hd
            · exact ch_good.tr (h3 hg) hl'
            · exact h4 d hd hn
/-- after the first round -/
theorem round_zero {P : List En} (hd : Dist P) : Known P 0 (chAt (roundM P (List.replicate P.length []))) := by
  refine Known.zero hd fun i e he => ?_
  rw [roundM_get (by simp) he]
  have h0 : ∀ j, chAt (List.replicate P.length ([] : List ByteArray)) j = [] := by
    intro j
    unfold chAt
    rw [List.getD, List.getElem?_replicate]
    split <;> rfl
  unfold linkM
  rw [h0, if_neg (by simp)]
  by_cases hc : e.cs = []
  · rw [if_pos hc, hc]; rfl
  · rw [if_neg hc]
    rcases pick_is P (List.replicate P.length []) e.id e.cs [] with ⟨h1, _⟩ | ⟨h1, h2, _⟩
    · exact h1
    · rcases h2 with h2 | ⟨c, _, h3, _⟩
      · exact h2
      · exact absurd (h0 _) h3
/-- the entries without causes are known -/
def Rooted (P : List En) (C : List (List ByteArray)) : Prop := C.length = P.length ∧ ∀ i e, P[i]? = some e → e.cs = [] → chAt C i ≠ []
theorem Rooted.start {P : List En} : Rooted P (roundM P (List.replicate P.length [])) := by
  refine ⟨roundM_len (by simp), fun i e he hc => ?_⟩
  rw [roundM_get (by simp) he]
  unfold linkM
  split
  · assumption
  · simp [hc, pick]
theorem Rooted.next {P : List En} {C : List (List ByteArray)} (h : Rooted P C) : Rooted P (roundM P C) := by
  refine ⟨roundM_len h.1, fun i e he hc => ?_⟩
  rw [roundM_get h.1 he]
  unfold linkM
  rw [if_pos (h.2 i e he hc)]
  exact h.2 i e he hc
theorem Rooted.round {P : List En} {C : List (List ByteArray)} (hd : Dist P) (hin : ∀ e ∈ P, ∀ c ∈ e.cs, ∃ d ∈ P, d.id = c) (h : Rooted P C) : Round P (chAt C) (chAt (roundM P C)) := by
  intro i e he
  rw [roundM_get h.1 he]
  unfold linkM
  by_cases h0 : chAt C i = []
  · refine .inr ⟨h0, ?_⟩
    rw [if_neg (by simp [h0]), if_neg (fun q => h.2 i e he q h0)]
    have hidx : ∀ (j : Nat) (d : En), P[j]? = some d → idx P d.id = j := fun j d hj => idx_of hd hj
    rcases pick_is P C e.id e.cs [] with ⟨h1, _, h3⟩ | ⟨h1, h2, _, h4⟩
    · refine .inl ⟨h1, fun j d hj hc => ?_⟩
      have := h3 _ hc
      rwa [hidx j d hj] at this
    · refine .inr ?_
      rcases h2 with h2 | ⟨c, hc, h3, h5⟩
      · exact absurd h2 h1
      · obtain ⟨d, hdm, rfl⟩ := hin e (List.mem_of_getElem? he) c hc
        obtain ⟨j, hj⟩ := List.mem_iff_getElem?.1 hdm
        rw [hidx j d hj] at h3 h5
        refine ⟨j, d, hj, hc, h3, h5, fun j' d' hj' hc' hf => ?_⟩
        have := h4 d'.id hc' (by rw [hidx j' d' hj']; exact hf)
        rwa [hidx j' d' hj'] at this
  · exact .inl ⟨h0, by rw [if_pos h0]⟩
/-- after r + 1 rounds -/
theorem known_iter {P : List En} (hd : Dist P) (hin : ∀ e ∈ P, ∀ c ∈ e.cs, ∃ d ∈ P, d.id = c) : ∀ r, Known P r (chAt (iter (roundM P) (r + 1) (List.replicate P.length []))) ∧ Rooted P (iter (roundM P) (r + 1) (List.replicate P.length []))
  | 0 => ⟨round_zero hd, Rooted.start⟩
  | r + 1 => by
    obtain ⟨h1, h2⟩ := known_iter hd hin r
    rw [iter_out]
    exact ⟨h1.next hd (h2.round hd hin), h2.next⟩
/-- how many are unknown -/
def blanks (C : List (List ByteArray)) : Nat := C.countP (fun x => decide (x = []))
theorem blanks_mono : ∀ {a b : List (List ByteArray)}, a.length = b.length → (∀ j, chAt a j ≠ [] → chAt b j = chAt a j) → a = b ∨ blanks b < blanks a
  | [], [], _, _ => .inl rfl
  | [], _ :: _, h, _ => by simp at h
  | _ :: _, [], h, _ => by simp at h
  | x :: a, y :: b, h, hm => by
    have ih := blanks_mono (a := a) (b := b) (by simpa using h) (fun j hj => hm (j + 1) hj)
    have h0 : x ≠ [] → y = x := hm 0
    have hle : blanks b ≤ blanks a := by rcases ih with q | q; rw [q]; exact Nat.le_refl _; omega
    unfold blanks at ih hle ⊢
    rw [List.countP_cons, List.countP_cons]
    by_cases hx : x = []
    · subst hx
      by_cases hy : y = []
      · subst hy
        rcases ih with q | q
        · exact .inl (by rw [q])
        · right; omega
      · right; rw [decide_eq_false hy]; simp; omega
    · have := h0 hx
      subst this
      rcases ih with q | q
      · exact .inl (by rw [q])
      · right; omega
theorem roundM_keep {P : List En} {C : List (List ByteArray)} (h : C.length = P.length) {j : Nat} (hj : chAt C j ≠ []) : chAt (roundM P C) j = chAt C j := by
  have hjl : j < P.length := by
    apply Classical.byContradiction
    intro q
    apply hj
    unfold chAt
    rw [List.getD, List.getElem?_eq_none (by omega)]; rfl
  obtain ⟨e, he⟩ : ∃ e, P[j]? = some e := ⟨_, List.getElem?_eq_getElem hjl⟩
  rw [roundM_get h he]
  unfold linkM
  rw [if_pos hj]
theorem chM_still (P : List En) : roundM P (chM P) = chM P := by
  unfold chM
  refine iter_still (μ := blanks) (p := fun C => C.length = P.length) (fun x px => roundM_len px) (fun x px => ?_) _ _ (by simp) ?_
  · rcases blanks_mono (a := x) (b := roundM P x) (by rw [roundM_len px, px]) (fun j hj => roundM_keep px hj) with q | q
    · exact .inl q.symm
    · exact .inr q
  · have := List.countP_le_length (p := fun x : List ByteArray => decide (x = [])) (l := List.replicate P.length ([] : List ByteArray))
    unfold blanks
    simpa using this
theorem right_in {L : List Ent} (hv : ValidL L) : ∀ e ∈ ps L, ∀ c ∈ e.cs, ∃ d ∈ ps L, d.id = c := by
  intro e he c hc
  obtain ⟨i, hi⟩ := List.mem_iff_getElem?.1 he
  obtain ⟨e', he', rfl⟩ := ps_get.1 hi
  obtain ⟨j, hj⟩ := List.mem_iff_getElem?.1 hc
  have h := (hv.2.2 i e' (List.getElem?_eq_some_iff.1 he').1 he' j c (List.getElem?_eq_some_iff.1 hj).1 hj).1
  obtain ⟨d, hd, rfl⟩ := List.mem_map.1 h
  exact ⟨d.p, List.mem_map.2 ⟨d, hd, rfl⟩, rfl⟩
theorem becM_is {L : List Ent} (hv : ValidL L) (id : ByteArray) : BecIs L id (becM (ps L) id).1 (becM (ps L) id).2 := by
  have hd := ps_dist hv.2.1
  have hb := validB_iff.2 hv
  have hin := right_in hv
  have hkn : ∀ i e, (ps L)[i]? = some e → (chAt (chM (ps L)) i = [] → ∀ y, ¬ Ch (ps L) y e.id) ∧ (chAt (chM (ps L)) i ≠ [] → Least (ps L) (chAt (chM (ps L)) i) e.id) := by
    intro i e he
    have hpos := (List.getElem?_eq_some_iff.1 he).1
    obtain ⟨r, hr⟩ : ∃ r, (ps L).length = r + 1 := ⟨(ps L).length - 1, by omega⟩
    obtain ⟨h1, h2⟩ := known_iter hd hin r
    have hst := chM_still (ps L)
    have heq : chM (ps L) = iter (roundM (ps L)) (r + 1) (List.replicate (ps L).length []) := by unfold chM; rw [← hr]
    rw [← heq] at h1 h2
    have hround := h2.round hd hin
    rw [hst] at hround
    exact ⟨fun h0 => h1.none hd hround he h0, fun h0 => h1.some he h0⟩
  unfold becM
  by_cases hlt : idx (ps L) id < (ps L).length
  · obtain ⟨e, he, rfl⟩ := idx_get hlt
    obtain ⟨h1, h2⟩ := hkn _ _ he
    split
    · rename_i h0
      exact .inr (.inr ⟨hb, rfl, rfl, h1 h0⟩)
    · rename_i h0
      exact .inr (.inl ⟨hb, rfl, h2 h0⟩)
  · have hC : (chM (ps L)).length = (ps L).length := by
      have : ∀ n C, C.length = (ps L).length → (iter (roundM (ps L)) n C).length = (ps L).length := by
        intro n
        induction n with
        | zero => intro C h; exact h
        | succ n ih => intro C h; exact ih _ (roundM_len h)
      exact this _ _ (by simp)
    have h0 : chAt (chM (ps L)) (idx (ps L) id) = [] := by
      unfold chAt
      rw [List.getD, List.getElem?_eq_none (by omega)]; rfl
    rw [if_pos h0]
    refine .inr (.inr ⟨hb, rfl, rfl, fun y hy => ?_⟩)
    obtain ⟨e, he, rfl⟩ := hy.mem
    obtain ⟨i, hi⟩ := List.mem_iff_getElem?.1 he
    rw [idx_of hd hi] at hlt
    exact hlt (List.getElem?_eq_some_iff.1 hi).1
/-! ### validity -/
def validC (P : List En) : Bool :=
  decide (P.length ≤ 1000) && (List.range P.length).all fun i => match P[i]? with
    | none => true
    | some e => !decide (e.id ∈ (P.map En.id).take i) && idB e.id.data.toList && decide (e.cs.length ≤ 20) &&
      (List.range e.cs.length).all fun j => match e.cs[j]? with
        | none => true
        | some c => decide (c ∈ P.map En.id) && !decide (c ∈ e.cs.take j)
theorem validC_iff {L : List Ent} : validC (ps L) = true ↔ ValidL L := by
  have hids : (ps L).map En.id = ids L := by unfold ps ids; rw [List.map_map]; rfl
  have hlen : (ps L).length = L.length := by simp [ps]
  unfold validC ValidL
  rw [hids, hlen]
  simp only [Bool.and_eq_true, decide_eq_true_eq, List.all_eq_true, List.mem_range]
  constructor
  · rintro ⟨h1, h2⟩
    refine ⟨h1, fun i e hi he => ?_, fun i e hi he j c hj hc => ?_⟩
    · have := h2 i hi
      rw [ps_get.2 ⟨e, he, rfl⟩] at this
      simp only [Bool.and_eq_true, Bool.not_eq_true', decide_eq_false_iff_not, decide_eq_true_eq] at this
      exact ⟨this.1.1.1, this.1.1.2, this.1.2⟩
    · have := h2 i hi
      rw [ps_get.2 ⟨e, he, rfl⟩] at this
      simp only [Bool.and_eq_true, Bool.not_eq_true', decide_eq_false_iff_not, decide_eq_true_eq, List.all_eq_true, List.mem_range] at this
      have := this.2 j hj
      change (match e.cs[j]? with | none => true | some c => decide (c ∈ ids L) && !decide (c ∈ e.cs.take j)) = true at this
      rw [hc] at this
      simpa using this
  · rintro ⟨h1, h2, h3⟩
    refine ⟨h1, fun i hi => ?_⟩
    obtain ⟨e, he⟩ : ∃ e, L[i]? = some e := ⟨_, List.getElem?_eq_getElem hi⟩
    rw [ps_get.2 ⟨e, he, rfl⟩]
    have a := h2 i e hi he
    have b := h3 i e hi he
    simp only [Bool.and_eq_true, Bool.not_eq_true', decide_eq_false_iff_not, decide_eq_true_eq, List.all_eq_true, List.mem_range]
    refine ⟨⟨⟨a.1, a.2.1⟩, a.2.2⟩, fun j hj => ?_⟩
    obtain ⟨c, hc⟩ : ∃ c, e.cs[j]? = some c := ⟨_, List.getElem?_eq_getElem hj⟩
    have := b j c hj hc
    show (match e.cs[j]? with | none => true | some c => decide (c ∈ ids L) && !decide (c ∈ e.cs.take j)) = true
    rw [hc]
    simpa using this
theorem validC_eq (L : List Ent) : validB L = validC (ps L) := by rw [Bool.eq_iff_iff, validB_iff, validC_iff]
end Go.Proofs.YtgkgpfennlkcnaaDoor
