/- RetractSupports: the entries that are left, step by step -/
import Derived.Test.YtgkgpfennlkcnaaDoorRetSups2
namespace Go.Proofs.YtgkgpfennlkcnaaDoor
open Go.RowKit

/-- the first causes that are not retracted -/
def keepC (R : List ByteArray) (cs : List ByteArray) : List ByteArray := cs.filter (fun c => !decide (c ∈ R))
theorem keep_no {R cs : List ByteArray} {j : Nat} {c : ByteArray} (h : cs[j]? = some c) (hc : c ∈ R) : keepC R (cs.take (j + 1)) = keepC R (cs.take j) := by
  unfold keepC
  rw [List.take_add_one, h, List.filter_append]
  simp [hc]
theorem keep_yes {R cs : List ByteArray} {j : Nat} {c : ByteArray} (h : cs[j]? = some c) (hc : c ∉ R) : keepC R (cs.take (j + 1)) = keepC R (cs.take j) ++ [c] := by
  unfold keepC
  rw [List.take_add_one, h, List.filter_append]
  simp [hc]
theorem rest_no {P : List En} {R : List ByteArray} {i : Nat} {e : En} (h : P[i]? = some e) (hr : e.id ∈ R) : restE R (P.take (i + 1)) = restE R (P.take i) := by
  unfold restE
  rw [List.take_add_one, h, List.filter_append]
  simp [hr]
theorem rest_yes {P : List En} {R : List ByteArray} {i : Nat} {e : En} (h : P[i]? = some e) (hr : e.id ∉ R) : restE R (P.take (i + 1)) = restE R (P.take i) ++ [leftE R e] := by
  unfold restE
  rw [List.take_add_one, h, List.filter_append, List.map_append]
  simp [hr]
theorem left_some {R : List ByteArray} {e : En} (h : keepC R e.cs ≠ []) : leftE R e = ⟨e.id, keepC R e.cs⟩ := by
  unfold leftE keepC at *
  rw [if_neg]
  intro q
  rw [Bool.and_eq_true, List.isEmpty_iff] at q
  exact h q.1
theorem left_root {R : List ByteArray} {e : En} (h : e.cs = []) : leftE R e = ⟨e.id, keepC R e.cs⟩ := by
  unfold leftE keepC
  rw [h]
  rfl
theorem left_self {R : List ByteArray} {e : En} (h : keepC R e.cs = []) (hc : e.cs ≠ []) : leftE R e = ⟨e.id, [e.id]⟩ := by
  unfold leftE keepC at *
  rw [if_pos]
  rw [Bool.and_eq_true, List.isEmpty_iff]
  refine ⟨h, ?_⟩
  cases hcs : e.cs with
  | nil => exact absurd hcs hc
  | cons _ _ => rfl
/-- is any of the first entries a supported cause? -/
noncomputable def anyC (L : List Ent) (R cs : List ByteArray) (k : Nat) : Bool := (L.take k).any (fun d => supB L R d.id && decide (d.id ∈ cs))
theorem anyC_step {L : List Ent} {R cs : List ByteArray} {k : Nat} {d : Ent} (h : L[k]? = some d) : anyC L R cs (k + 1) = (anyC L R cs k || (supB L R d.id && decide (d.id ∈ cs))) := by
  unfold anyC
  rw [List.take_add_one, h, List.any_append]
  simp
theorem sup_is {L : List Ent} {R : List ByteArray} (hv : ValidL L) {i : Nat} {e : Ent} (he : L[i]? = some e) : supB L R e.id = ((e.cs.isEmpty || anyC L R e.cs L.length) && !decide (e.id ∈ R)) := by
  have hm : e.p ∈ ps L := ps_mem he
  rw [Bool.eq_iff_iff, supB_iff, show e.id = e.p.id from rfl, sup_iff (ps_dist hv.2.1) hm]
  unfold anyC
  rw [List.take_of_length_le (Nat.le_refl _)]
  simp only [Bool.and_eq_true, Bool.or_eq_true, Bool.not_eq_true', decide_eq_false_iff_not, List.isEmpty_iff, List.any_eq_true, decide_eq_true_eq]
  constructor
  · rintro ⟨h1, h2⟩
    refine ⟨?_, h1⟩
    rcases h2 with h2 | ⟨c, h2, h3⟩
    · exact .inl h2
    · right
      obtain ⟨d, hd, rfl⟩ := right_in hv e.p hm c h2
      obtain ⟨d', hd', rfl⟩ := List.mem_map.1 hd
      exact ⟨d', hd', supB_iff.2 h3, h2⟩
  · rintro ⟨h1, h2⟩
    refine ⟨h2, ?_⟩
    rcases h1 with h1 | ⟨d, _, h3, h4⟩
    · exact .inl h1
    · exact .inr ⟨d.id, h4, supB_iff.1 h3⟩
end Go.Proofs.YtgkgpfennlkcnaaDoor
