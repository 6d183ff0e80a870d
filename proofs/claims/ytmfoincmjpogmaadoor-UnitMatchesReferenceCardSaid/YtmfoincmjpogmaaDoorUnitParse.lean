/- unit: Parse's walk -/
import Derived.Test.YtmfoincmjpogmaaDoorUnitPrs
namespace Go.Proofs.YtmfoincmjpogmaaDoor
open Go.RowKit

theorem parse_world (w : World) : ∃ w0 : World, ((w.alloc (.cells #[.int .i64 0, .int .i64 0, .int .i64 0] 23)).alloc (.cells #[.int .i64 0, .int .i64 0, .int .i64 0] 40)) = w0 ∧ Blk w0 w.heap.size 23 (uCells u0) ∧
    Blk w0 (w.heap.size + 1) 40 (uCells u0) ∧ Below w.heap.size w w0 := by
  refine ⟨_, rfl, (Blk.new w _ _).alloc _, ?_, (below_alloc w _).alloc (by simp) _⟩
  have := Blk.new (w.alloc (.cells #[.int .i64 0, .int .i64 0, .int .i64 0] 23)) #[.int .i64 0, .int .i64 0, .int .i64 0] 40
  rw [World.size_alloc] at this
  exact this


theorem fieldsGoD_len : ∀ (f : Nat) (cur l : List UInt8), ∀ x ∈ Lib.fieldsGoD f cur l, x.length ≤ cur.length + l.length
  | 0, cur, l => by
    intro x hx
    unfold Lib.fieldsGoD at hx
    split at hx
    · simp at hx
    · simp at hx; subst hx; omega
  | f + 1, cur, l => by
    intro x hx
    have ih := fieldsGoD_len f
    simp only [Lib.fieldsGoD] at hx
    split at hx
    · split at hx
      · simp at hx
      · simp at hx; subst hx; omega
    · split at hx
      · rw [List.mem_append] at hx
        rcases hx with hx | hx
        · split at hx
          · simp at hx
          · simp at hx; subst hx; omega
        · have := ih _ _ x hx
          simp at this
          omega
      · have := ih _ _ x hx
        simp at this
        omega
theorem fieldsD_len (l : List UInt8) : ∀ x ∈ Lib.fieldsD l, x.length ≤ l.length := by
  intro x hx
  have := fieldsGoD_len _ _ _ x hx
  simpa using this
theorem cutH_len (f : List UInt8) : (cutH f).1.length ≤ f.length ∧ (cutH f).2.length ≤ f.length := by
  unfold cutH; split <;> simp <;> omega
/-- the world within Parse -/
structure PW (w : World) (nb A : Nat) (L : List (List UInt8)) (cs : List Value) (wr : World) : Prop where
  n : Blk wr nb 40 cs
  r : Blk wr w.heap.size 23 (uCells u0)
  cells : ∀ (j : Nat) x, L[j]? = some x → wr.cell? ⟨A, j, none⟩ = some (.string ⟨x.toArray⟩)
  below : Below w.heap.size w wr
  lt : A < wr.heap.size
  ne1 : nb = w.heap.size + 1
  ne2 : nb < A
theorem PW.step {w wr w' : World} {nb A : Nat} {L : List (List UInt8)} {cs : List Value} (h : PW w nb A L cs wr) (hB : Below wr.heap.size wr w') : PW w nb A L cs w' :=
  ⟨h.n.below hB h.n.lt, h.r.below hB h.r.lt, fun j x hj => (hB.cell (p := ⟨A, j, none⟩) h.lt).trans (h.cells j x hj), h.below.trans (hB.mono h.below.size), Nat.lt_of_lt_of_le h.lt hB.size, h.ne1, h.ne2⟩
theorem PW.set {w wr : World} {nb A : Nat} {L : List (List UInt8)} {cs : List Value} (h : PW w nb A L cs wr) (i : Nat) (v : Value) : PW w nb A L (cs.set i v) (wr.setCell ⟨nb, i, none⟩ v) := by
  have h1 := h.ne1
  have h2 := h.ne2
  refine ⟨h.n.set i v, h.r.other _ (by show _ ≠ nb; omega) v, fun j x hj => ?_, h.below.setCell (by show _ ≤ nb; omega) v, by simpa [World.setCell] using h.lt, h1, h2⟩
  rw [← h.cells j x hj]
  exact World.cell?_of_block (Below.heap_setCell _ _ _ _ (by show A ≠ nb; omega))
theorem PW.cast {w wr : World} {nb A : Nat} {L : List (List UInt8)} {cs cs' : List Value} (h : PW w nb A L cs wr) (e : cs = cs') : PW w nb A L cs' wr := e ▸ h
theorem fold_take {L : List (List UInt8)} {k : Nat} {f : List UInt8} (h : L[k]? = some f) : (L.take (k + 1)).foldl stepU u0 = stepU ((L.take k).foldl stepU u0) f := by
  rw [List.take_add_one, h, List.foldl_append]; rfl



set_option maxHeartbeats 4000000 in
set_option maxRecDepth 100000 in
theorem parse_any (s : ByteArray) (w : World) (hs : s.size ≤ 100000) (hL : LayU w) : Calls Tryd.prog 15 #[.string s] w fun e w' => e = .returned (.tuple #[uV (parseU s.data.toList), .int .i64 (parseE s.data.toList)]) ∧ Below w.heap.size w w' := by
  obtain ⟨X, E, HX⟩ : ∃ X E, Hid (parseU s.data.toList = X ∧ parseE s.data.toList = E) := ⟨_, _, hid ⟨rfl, rfl⟩⟩
  rw [HX.out.1, HX.out.2]
  have HF := hid (fun w => fields_any s w hs)
  have HLW := hid hL
  clear hL
  obtain ⟨L, hLL⟩ : ∃ L, Lib.fieldsD s.data.toList = L := ⟨_, rfl⟩
  have HN := hid (show parseN s.data.toList = L.foldl stepU u0 by unfold parseN; rw [hLL])
  have HFL := hid (show ∀ x ∈ L, x.length ≤ 100000 by rw [← hLL]; intro x hx; have := fieldsD_len _ x hx; have e : s.data.toList.length = s.size := Array.length_toList; omega)
  rw [hLL] at HF
  clear hLL
  unfold uV
  go_enter Tryd.func15, Tryd.ntmps15
  go_wp2_with fail
  obtain ⟨w0, hw0, hr, hn, hB0⟩ := parse_world w
  rw [hw0]
  clear hw0
  refine (HF.out _ (HLW.out.below hB0)).mono ?_
  rintro e w1 ⟨A, rfl, hA, hcells, hAlt, hB1, hLm⟩
  have HnA := hid (show w.heap.size + 1 < A from by have := hn.lt; omega)
  have hrn := hn.lt
  replace hr := hr.below hB1 hr.lt
  replace hn := hn.below hB1 hn.lt
  have hB := hB0.trans (hB1.mono hB0.size)
  clear hB0 hB1 hA
  generalize hrb : w.heap.size + 1 = nb at *
  have HRB := hid (show nb = w.heap.size + 1 from hrb.symm)
  clear hrb hrn
  generalize hLn : L.length = len at *
  have hPW : PW w nb A L (uCells ((L.take 0).foldl stepU u0)) w1 := ⟨hn, hr, hcells, hB, hAlt, HRB.out, HnA.out⟩
  have hfl : ∀ x ∈ L, x.length ≤ 100000 := HFL.out
  have hLm2 : len ≤ 9223372036854775807 := by unfold maxLen at hLm; omega
  clear hn hr hcells hB hAlt HF
  go_wp2_with fail
  go_loopw [20] (fun s20 wr => ∃ k : Nat, s20 = .int .i64 k ∧ k ≤ len ∧ PW w nb A L (uCells ((L.take k).foldl stepU u0)) wr) (fun s20 _ => len - (intOf s20).toNat)
  case atStart => exact ⟨0, rfl, by omega, hPW⟩
  case round =>
    clear hPW
    obtain ⟨k, rfl, hk, hPW⟩ := hrel
    by_cases hkn : k < len
    · obtain ⟨f, hf⟩ : ∃ f, L[k]? = some f := ⟨_, List.getElem?_eq_getElem (by omega)⟩
      have hfc := hPW.cells k f hf
      have hfs := hfl f (List.mem_of_getElem? hf)
      obtain ⟨hc1, hc2⟩ := cutH_len f
      have HSF := hid (fold_take hf)
      generalize hu : (L.take k).foldl stepU u0 = u at *
      clear hu
      go_wp2_with fail
      refine (strcut_any ⟨f.toArray⟩ wr (by show f.toArray.size ≤ _; simp; omega)).mono ?_
      rintro e w2 ⟨rfl, hB2⟩
      replace hPW := hPW.step hB2
      clear hB2 hfc
      go_wp2_with fail
      refine (atoi_any ⟨(cutH f).2.toArray⟩ _ (by show (cutH f).2.toArray.size ≤ _; simp; omega) (HLW.out.below hPW.below).lay).mono ?_
      rintro e w3 ⟨ev, rfl, hB3, hev⟩
      replace hPW := hPW.step hB3
      clear hB3
      have H3 := cellsP_three f u
      dsimp only at hev H3
      generalize (⟨(cutH f).1.toArray⟩ : ByteArray) = name at *
      generalize atoiV (cutH f).2 = v at *
      generalize atoiB (cutH f).2 = b at *
      generalize hasH f = h at *
      have hc0 := (HLW.out.below hPW.below).names.c0
      have hc1 := (HLW.out.below hPW.below).names.c1
      have hc2 := (HLW.out.below hPW.below).names.c2
      cases h
      · have HX3 : cellsP true 1 name u 3 = uCells (stepU u f) := H3
        clear H3
        go_wp2_with fail
        go_loopw [37] (fun s37 wx => ∃ i : Nat, s37 = .int .i64 i ∧ i ≤ 3 ∧ PW w nb A L (cellsP true 1 name u i) wx) (fun s37 _ => 3 - (intOf s37).toNat)
        case atStart => exact ⟨0, rfl, by omega, hPW.cast (cellsP_zero true 1 name u).symm⟩
        case round =>
          clear hPW hc0 hc1 hc2
          obtain ⟨i, rfl, hi, hPW⟩ := hrel
          have hc0 := (HLW.out.below hPW.below).names.c0  ;have hc1 := (HLW.out.below hPW.below).names.c1  ;have hc2 := (HLW.out.below hPW.below).names.c2  ;have q0 := hPW.n.cell 0  ;have q1 := hPW.n.cell 1  ;have q2 := hPW.n.cell 2  ;have f0 := hPW.n.free 0  ;have f1 := hPW.n.free 1  ;have f2 := hPW.n.free 2  ;simp only [cellsP, List.getElem?_cons_succ, List.getElem?_cons_zero] at q0 q1 q2
          obtain rfl | rfl | rfl | rfl : i = 0 ∨ i = 1 ∨ i = 2 ∨ i = 3 := by omega
          · by_cases e : nmC = name
            · have HE := hid e
              have hst := (hPW.set 0 (.int .i64 1)).cast (cellsP_yes0 ⟨e, rfl⟩)
              subst e
              go_wp2_with fail
              go_roundw
              case rel => exact ⟨0 + 1, by go_num, by omega, hst⟩
              case measure => simp [intOf]
            · have hst := hPW.cast (cellsP_no0 (fun h => e h.1))
              have hne := str_ne e
              go_wp2_with fail
              go_roundw
              case rel => exact ⟨0 + 1, by go_num, by omega, hst⟩
              case measure => simp [intOf]
          · by_cases e : nmE = name
            · have HE := hid e
              have hst := (hPW.set 1 (.int .i64 1)).cast (cellsP_yes1 ⟨e, rfl⟩)
              subst e
              go_wp2_with fail
              go_roundw
              case rel => exact ⟨1 + 1, by go_num, by omega, hst⟩
              case measure => simp [intOf]
            · have hst := hPW.cast (cellsP_no1 (fun h => e h.1))
              have hne := str_ne e
              go_wp2_with fail
              go_roundw
              case rel => exact ⟨1 + 1, by go_num, by omega, hst⟩
              case measure => simp [intOf]
          · by_cases e : nmS = name
            · have HE := hid e
              have hst := (hPW.set 2 (.int .i64 1)).cast (cellsP_yes2 ⟨e, rfl⟩)
              subst e
              go_wp2_with fail
              go_roundw
              case rel => exact ⟨2 + 1, by go_num, by omega, hst⟩
              case measure => simp [intOf]
            · have hst := hPW.cast (cellsP_no2 (fun h => e h.1))
              have hne := str_ne e
              go_wp2_with fail
              go_roundw
              case rel => exact ⟨2 + 1, by go_num, by omega, hst⟩
              case measure => simp [intOf]
          · replace hPW := hPW.cast HX3
            clear hc0 hc1 hc2 q0 q1 q2 f0 f1 f2
            go_wp2_with fail
            go_roundw
            case rel => exact ⟨k + 1, by go_num, by omega, by rw [HSF.out]; exact hPW⟩
            case measure => simp [intOf]; omega
      · rcases hev with ⟨rfl, rfl⟩ | ⟨rfl, tt, p, rfl⟩
        · have HX3 : cellsP true v name u 3 = uCells (stepU u f) := H3
          clear H3
          go_wp2_with fail
          go_loopw [37] (fun s37 wx => ∃ i : Nat, s37 = .int .i64 i ∧ i ≤ 3 ∧ PW w nb A L (cellsP true v name u i) wx) (fun s37 _ => 3 - (intOf s37).toNat)
          case atStart => exact ⟨0, rfl, by omega, hPW.cast (cellsP_zero true v name u).symm⟩
          case round =>
            clear hPW hc0 hc1 hc2
            obtain ⟨i, rfl, hi, hPW⟩ := hrel
            have hc0 := (HLW.out.below hPW.below).names.c0  ;have hc1 := (HLW.out.below hPW.below).names.c1  ;have hc2 := (HLW.out.below hPW.below).names.c2  ;have q0 := hPW.n.cell 0  ;have q1 := hPW.n.cell 1  ;have q2 := hPW.n.cell 2  ;have f0 := hPW.n.free 0  ;have f1 := hPW.n.free 1  ;have f2 := hPW.n.free 2  ;simp only [cellsP, List.getElem?_cons_succ, List.getElem?_cons_zero] at q0 q1 q2
            obtain rfl | rfl | rfl | rfl : i = 0 ∨ i = 1 ∨ i = 2 ∨ i = 3 := by omega
            · by_cases e : nmC = name
              · have HE := hid e
                have hst := (hPW.set 0 (.int .i64 v)).cast (cellsP_yes0 ⟨e, rfl⟩)
                subst e
                go_wp2_with fail
                go_roundw
                case rel => exact ⟨0 + 1, by go_num, by omega, hst⟩
                case measure => simp [intOf]
              · have hst := hPW.cast (cellsP_no0 (fun h => e h.1))
                have hne := str_ne e
                go_wp2_with fail
                go_roundw
                case rel => exact ⟨0 + 1, by go_num, by omega, hst⟩
                case measure => simp [intOf]
            · by_cases e : nmE = name
              · have HE := hid e
                have hst := (hPW.set 1 (.int .i64 v)).cast (cellsP_yes1 ⟨e, rfl⟩)
                subst e
                go_wp2_with fail
                go_roundw
                case rel => exact ⟨1 + 1, by go_num, by omega, hst⟩
                case measure => simp [intOf]
              · have hst := hPW.cast (cellsP_no1 (fun h => e h.1))
                have hne := str_ne e
                go_wp2_with fail
                go_roundw
                case rel => exact ⟨1 + 1, by go_num, by omega, hst⟩
                case measure => simp [intOf]
            · by_cases e : nmS = name
              · have HE := hid e
                have hst := (hPW.set 2 (.int .i64 v)).cast (cellsP_yes2 ⟨e, rfl⟩)
                subst e
                go_wp2_with fail
                go_roundw
                case rel => exact ⟨2 + 1, by go_num, by omega, hst⟩
                case measure => simp [intOf]
              · have hst := hPW.cast (cellsP_no2 (fun h => e h.1))
                have hne := str_ne e
                go_wp2_with fail
                go_roundw
                case rel => exact ⟨2 + 1, by go_num, by omega, hst⟩
                case measure => simp [intOf]
            · replace hPW := hPW.cast HX3
              clear hc0 hc1 hc2 q0 q1 q2 f0 f1 f2
              go_wp2_with fail
              go_roundw
              case rel => exact ⟨k + 1, by go_num, by omega, by rw [HSF.out]; exact hPW⟩
              case measure => simp [intOf]; omega
        · have HX3 : cellsP false v name u 3 = uCells (stepU u f) := H3
          clear H3
          go_wp2_with fail
          go_loopw [37] (fun s37 wx => ∃ i : Nat, s37 = .int .i64 i ∧ i ≤ 3 ∧ PW w nb A L (cellsP false v name u i) wx) (fun s37 _ => 3 - (intOf s37).toNat)
          case atStart => exact ⟨0, rfl, by omega, hPW.cast (cellsP_zero false v name u).symm⟩
          case round =>
            clear hPW hc0 hc1 hc2
            obtain ⟨i, rfl, hi, hPW⟩ := hrel
            have hc0 := (HLW.out.below hPW.below).names.c0  ;have hc1 := (HLW.out.below hPW.below).names.c1  ;have hc2 := (HLW.out.below hPW.below).names.c2  ;have q0 := hPW.n.cell 0  ;have q1 := hPW.n.cell 1  ;have q2 := hPW.n.cell 2  ;have f0 := hPW.n.free 0  ;have f1 := hPW.n.free 1  ;have f2 := hPW.n.free 2  ;simp only [cellsP, List.getElem?_cons_succ, List.getElem?_cons_zero] at q0 q1 q2
            obtain rfl | rfl | rfl | rfl : i = 0 ∨ i = 1 ∨ i = 2 ∨ i = 3 := by omega
            · have hst := hPW.cast (cellsP_no0 (name := name) (fun h => by cases h.2))
              by_cases e : nmC = name
              · subst e
                go_wp2_with fail
                go_roundw
                case rel => exact ⟨0 + 1, by go_num, by omega, hst⟩
                case measure => simp [intOf]
              · have hne := str_ne e
                go_wp2_with fail
                go_roundw
                case rel => exact ⟨0 + 1, by go_num, by omega, hst⟩
                case measure => simp [intOf]
            · have hst := hPW.cast (cellsP_no1 (name := name) (fun h => by cases h.2))
              by_cases e : nmE = name
              · subst e
                go_wp2_with fail
                go_roundw
                case rel => exact ⟨1 + 1, by go_num, by omega, hst⟩
                case measure => simp [intOf]
              · have hne := str_ne e
                go_wp2_with fail
                go_roundw
                case rel => exact ⟨1 + 1, by go_num, by omega, hst⟩
                case measure => simp [intOf]
            · have hst := hPW.cast (cellsP_no2 (name := name) (fun h => by cases h.2))
              by_cases e : nmS = name
              · subst e
                go_wp2_with fail
                go_roundw
                case rel => exact ⟨2 + 1, by go_num, by omega, hst⟩
                case measure => simp [intOf]
              · have hne := str_ne e
                go_wp2_with fail
                go_roundw
                case rel => exact ⟨2 + 1, by go_num, by omega, hst⟩
                case measure => simp [intOf]
            · replace hPW := hPW.cast HX3
              clear hc0 hc1 hc2 q0 q1 q2 f0 f1 f2
              go_wp2_with fail
              go_roundw
              case rel => exact ⟨k + 1, by go_num, by omega, by rw [HSF.out]; exact hPW⟩
              case measure => simp [intOf]; omega
    · obtain rfl : k = len := by omega
      have hu : (L.take k).foldl stepU u0 = parseN s.data.toList := by rw [HN.out, List.take_of_length_le (by omega)]
      rw [hu] at hPW
      obtain ⟨u, hpu⟩ : ∃ u, parseN s.data.toList = u := ⟨_, rfl⟩
      rw [hpu] at hPW
      have HU := hid (show parseN s.data.toList = u from hpu)
      clear hu hfl hpu
      by_cases hvu : vB u = true
      · have HO := hid (fun w => show Calls Tryd.prog 21 #[uV u] w fun e w' => e = .returned (.tuple #[uV u, .bool true]) ∧ Below w.heap.size w w' by have := of_any u w; rw [if_pos hvu, hvu] at this; exact this)
        have HT := hid (fun w (hL : LayU w) => text_good u w hvu hL.lay hL.names)
        unfold uV at HO HT
        go_wp2_with (first | (refine wpList_load_row rfl 40 _ rfl nb rfl 40 _ (0, 0) _ hPW.n Tryd.underlying40 rfl (by kernel_rfl) ?_))
        refine (HO.out _).mono ?_
        rintro e w4 ⟨rfl, hB4⟩
        replace hPW := hPW.step hB4  ;clear hB4  ;have hub := Blk.new w4 #[.int .i64 u.a, .int .i64 u.b, .int .i64 u.c] 23  ;replace hPW := hPW.step (below_alloc w4 (.cells #[.int .i64 u.a, .int .i64 u.b, .int .i64 u.c] 23))  ;go_wp2_with fail  ;generalize hg : w4.heap.size = ub at *  ;refine (HT.out _ (HLW.out.below hPW.below)).mono ?_  ;rintro e w5 ⟨rfl, hB5⟩  ;replace hub := hub.below hB5 hub.lt  ;replace hPW := hPW.step hB5  ;clear hB5 hg  ;have hrr := hPW.r
        by_cases hts : textB u = s
        · obtain ⟨rfl, rfl⟩ : u = X ∧ 0 = E := by
            rw [← HX.out.1, ← HX.out.2]; unfold parseU parseE parseOkB
            rw [HU.out, hvu, ← hts]; simp
          subst hts
          go_wp2_with (first | (refine wpList_load_row rfl 23 _ rfl ub rfl 23 _ (0, 0) _ hub Tryd.underlying23 rfl (by kernel_rfl) ?_) | (refine wpList_store_row rfl 23 _ _ rfl w.heap.size _ rfl rfl 23 _ hrr (by kernel_rfl) rfl (by simp [Value.oneCell']) ?_))
          (try simp only [Exit.inBlock, Exit.then]); refine bodyPost_ret (results_row2 rfl _ _ w.heap.size 23 _ _ rfl (setRow_heap _ _ _ _ _ _ hrr) Tryd.underlying23 rfl (by kernel_rfl)) rfl ?_
          exact ⟨rfl, below_setRow hPW.below (Nat.le_refl _) _⟩
        · obtain ⟨rfl, rfl⟩ : u0 = X ∧ 5 = E := by
            rw [← HX.out.1, ← HX.out.2]; unfold parseU parseE parseOkB
            rw [HU.out]
            have : ¬ (textB u).data.toList = s.data.toList := fun h => hts (str_ext h)
            simp [this]
          have hne := str_ne hts
          go_wp2_with (first | (refine wpList_load_row rfl 23 _ rfl ub rfl 23 _ (0, 0) _ hub Tryd.underlying23 rfl (by kernel_rfl) ?_) | (refine wpList_store_row rfl 23 _ _ rfl w.heap.size _ rfl rfl 23 _ hrr (by kernel_rfl) rfl (by simp [Value.oneCell']) ?_))
          (try simp only [Exit.inBlock, Exit.then]); refine bodyPost_ret (results_row2 rfl _ _ w.heap.size 23 _ _ rfl (setRow_heap _ _ _ _ _ _ hrr) Tryd.underlying23 rfl (by kernel_rfl)) rfl ?_
          exact ⟨rfl, below_setRow hPW.below (Nat.le_refl _) _⟩
      · have HO := hid (fun w => show Calls Tryd.prog 21 #[uV u] w fun e w' => e = .returned (.tuple #[uV u0, .bool false]) ∧ Below w.heap.size w w' by have := of_any u w; rw [if_neg hvu, Bool.eq_false_iff.2 hvu] at this; exact this)
        have HT := hid (fun w (hL : LayU w) => text_good u0 w vB_u0 hL.lay hL.names)
        obtain ⟨rfl, rfl⟩ : u0 = X ∧ 5 = E := by
          rw [← HX.out.1, ← HX.out.2]; unfold parseU parseE parseOkB
          rw [HU.out]; simp [hvu]
        unfold uV at HO HT
        go_wp2_with (first | (refine wpList_load_row rfl 40 _ rfl nb rfl 40 _ (0, 0) _ hPW.n Tryd.underlying40 rfl (by kernel_rfl) ?_))
        refine (HO.out _).mono ?_
        rintro e w4 ⟨rfl, hB4⟩
        replace hPW := hPW.step hB4  ;clear hB4  ;have hub := Blk.new w4 #[.int .i64 u0.a, .int .i64 u0.b, .int .i64 u0.c] 23  ;replace hPW := hPW.step (below_alloc w4 (.cells #[.int .i64 u0.a, .int .i64 u0.b, .int .i64 u0.c] 23))  ;go_wp2_with fail  ;generalize hg : w4.heap.size = ub at *  ;refine (HT.out _ (HLW.out.below hPW.below)).mono ?_  ;rintro e w5 ⟨rfl, hB5⟩  ;replace hub := hub.below hB5 hub.lt  ;replace hPW := hPW.step hB5  ;clear hB5 hg  ;have hrr := hPW.r
        go_wp2_with (first | (refine wpList_load_row rfl 23 _ rfl ub rfl 23 _ (0, 0) _ hub Tryd.underlying23 rfl (by kernel_rfl) ?_) | (refine wpList_store_row rfl 23 _ _ rfl w.heap.size _ rfl rfl 23 _ hrr (by kernel_rfl) rfl (by simp [Value.oneCell']) ?_))
        (try simp only [Exit.inBlock, Exit.then]); refine bodyPost_ret (results_row2 rfl _ _ w.heap.size 23 _ _ rfl (setRow_heap _ _ _ _ _ _ hrr) Tryd.underlying23 rfl (by kernel_rfl)) rfl ?_
        exact ⟨rfl, below_setRow hPW.below (Nat.le_refl _) _⟩
end Go.Proofs.YtmfoincmjpogmaaDoor
