/- weather: Text -/
import Derived.Test.YtbkheiilcfhfpaaDoorWeaNum
import Derived.Test.YtbkheiilcfhfpaaDoorWeaAll
import Derived.Test.YtbkheiilcfhfpaaDoorStrBld
import Derived.Deep.CutRange
import Derived.Deep.RegionWith
namespace Go.Proofs.YtbkheiilcfhfpaaDoor
open Go.RowKit

/-- a slice of pointers into the spell, in a block of its own -/
def NumB (w0 w : World) (v : Value) (sb : Nat) (os : List Nat) : Prop := ∃ ao, v = .slice ao os.length os.length ∧ SlV w ao (os.map (fptr sb)) ∧ ∀ b off, ao = some ⟨b, off, none⟩ → w0.heap.size ≤ b ∧ ∃ cs, Blk w b 68 cs
theorem numb1 (sb : Nat) (w : World) : Calls Tryd.prog 45 #[.pointer (some ⟨sb, 0, none⟩)] w fun e w' => ∃ v, e = .returned v ∧ NumB w w' v sb [1, 2] ∧ Below w.heap.size w w' := by
  go_enter Tryd.func45, Tryd.ntmps45
  go_wp2_with fail
  go_region
  go_wp2_with fail
  go_ret
  exact ⟨_, rfl, ⟨_, rfl, blkN_slv (Blk.new w _ _).drew (by simp [maxLen]), fun _ _ h => by cases h; exact ⟨Nat.le_refl _, _, (Blk.new w _ _).drew⟩⟩, (below_alloc w _).drew⟩
theorem numb3 (sb : Nat) (w : World) : Calls Tryd.prog 47 #[.pointer (some ⟨sb, 0, none⟩)] w fun e w' => ∃ v, e = .returned v ∧ NumB w w' v sb [2] ∧ Below w.heap.size w w' := by
  go_enter Tryd.func47, Tryd.ntmps47
  go_wp2_with fail
  go_ret
  exact ⟨_, rfl, ⟨_, rfl, blkN_slv (Blk.new w _ _) (by simp [maxLen]), fun _ _ h => by cases h; exact ⟨Nat.le_refl _, _, Blk.new w _ _⟩⟩, below_alloc w _⟩
theorem numb5 (sb : Nat) (w : World) : Calls Tryd.prog 49 #[.pointer (some ⟨sb, 0, none⟩)] w fun e w' => ∃ v, e = .returned v ∧ NumB w w' v sb [] ∧ Below w.heap.size w w' := by
  go_enter Tryd.func49, Tryd.ntmps49
  go_wp2_with fail
  go_ret
  exact ⟨_, rfl, ⟨_, rfl, ⟨by simp, by simp⟩, fun _ _ h => by cases h⟩, Below.refl _ w⟩

/-! ### the text -/
def kwL (k : Int) : List UInt8 := if k = 1 then wCloud else if k = 2 then wSeeing else wClosed
def Sp.get (s : Sp) (o : Nat) : Int := if o = 1 then s.q else s.n
def numsT (s : Sp) (os : List Nat) : List UInt8 := os.flatMap fun o => 32 :: Lib.itoa (s.get o)
def textS (s : Sp) : List UInt8 := kwL s.k ++ (numsT s (offsK s.k) ++ ([32, 102, 114, 111, 109, 32] ++ Lib.itoa s.a ++ [32, 117, 110, 116, 105, 108, 32] ++ Lib.itoa s.b ++ [59, 10]))
def textL (L : List Sp) : List UInt8 := L.flatMap textS
theorem textL_snoc {L : List Sp} {k : Nat} {s : Sp} (h : L[k]? = some s) : textL (L.take (k + 1)) = textL (L.take k) ++ textS s := by
  unfold textL
  rw [List.take_add_one, h, List.flatMap_append]; simp
theorem kw_kwL {k : Int} (h : isK k = true) : kw k = ⟨(kwL k).toArray⟩ := by
  rcases isK_iff.1 h with rfl | rfl | rfl <;> rfl
theorem getB {s : Sp} (h : formB s = true) {o : Nat} (ho : o ∈ offsK s.k) : 0 ≤ s.get o ∧ s.get o ≤ 1000 := by
  unfold formB at h
  simp only [Bool.and_eq_true, decide_eq_true_eq] at h
  obtain ⟨⟨⟨⟨h1, _⟩, _⟩, _⟩, hv⟩ := h
  obtain ⟨k, q, n, a, b⟩ := s
  rcases isK_iff.1 h1 with h2 | h2 | h2
  · simp only at h2
    subst h2
    simp [offsK] at ho
    simp [valK, inR] at hv
    rcases ho with rfl | rfl <;> simp [Sp.get] <;> omega
  · simp only at h2
    subst h2
    simp [offsK] at ho
    simp [valK, inR] at hv
    subst ho; simp [Sp.get]; omega
  · simp only at h2
    subst h2
    simp [offsK] at ho
theorem momsB {s : Sp} (h : formB s = true) : (0 ≤ s.a ∧ s.a ≤ 38399) ∧ (0 ≤ s.b ∧ s.b ≤ 38399) ∧ s.a ≤ s.b := by
  unfold formB at h
  simp only [Bool.and_eq_true, decide_eq_true_eq] at h
  obtain ⟨⟨⟨⟨_, h1⟩, h2⟩, h3⟩, _⟩ := h
  simp [momB, inR] at h1 h2
  exact ⟨h1, h2, h3⟩
theorem itoa_len {n : Int} (h : 0 ≤ n ∧ n ≤ 100000) : (Lib.itoa n).length ≤ 21 := Lib.itoa_length_le n (by omega) (by omega)
theorem numsT_len {s : Sp} (h : formB s = true) (os : List Nat) (ho : ∀ o ∈ os, o ∈ offsK s.k) : (numsT s os).length ≤ 22 * os.length := by
  unfold numsT
  induction os with
  | nil => simp
  | cons o os ih =>
    rw [List.flatMap_cons, List.length_append, List.length_cons]
    have := ih (fun x hx => ho x (List.mem_cons_of_mem _ hx))
    have h1 := getB h (ho o (List.mem_cons_self ..))
    have := itoa_len (n := s.get o) (by omega)
    simp only [List.length_cons]; omega
theorem kwL_len (k : Int) : (kwL k).length ≤ 7 := by
  unfold kwL; repeat' split
  all_goals simp [wCloud, wSeeing, wClosed]
theorem offsK_len (k : Int) : (offsK k).length ≤ 2 := by
  unfold offsK; repeat' split
  all_goals simp
theorem textS_len {s : Sp} (h : formB s = true) : (textS s).length ≤ 200 := by
  unfold textS
  have h1 := kwL_len s.k
  have h2 := numsT_len h (offsK s.k) (fun _ h => h)
  have h3 := offsK_len s.k
  obtain ⟨h4, h5, _⟩ := momsB h
  have h6 := itoa_len (n := s.a) (by omega)
  have h7 := itoa_len (n := s.b) (by omega)
  simp only [List.length_append, List.length_cons, List.length_nil]
  omega
theorem textL_len {L : List Sp} (h : ∀ s ∈ L, formB s = true) : (textL L).length ≤ 200 * L.length := by
  unfold textL
  induction L with
  | nil => simp
  | cons s L ih =>
    rw [List.flatMap_cons, List.length_append, List.length_cons]
    have := ih (fun x hx => h x (List.mem_cons_of_mem _ hx))
    have := textS_len (h s (List.mem_cons_self ..))
    omega
theorem look3n (w0 : World) (k : Int) :
    ((Instr.lookup 60 (.map (some w0.heap.size)) (.int .i64 k) false).run Tryd.prog (w0.alloc (.map kEs 3)).drew = .ok (kv k) (w0.alloc (.map kEs 3)).drew) ∧
    (∀ o : Obj, (Instr.lookup 60 (.map (some w0.heap.size)) (.int .i64 k) false).run Tryd.prog ((w0.alloc (.map kEs 3)).alloc o).drew = .ok (kv k) ((w0.alloc (.map kEs 3)).alloc o).drew) ∧
    (∀ o : Obj, (Instr.lookup 60 (.map (some (w0.heap.size + 1))) (.int .i64 k) false).run Tryd.prog ((w0.alloc o).alloc (.map kEs 3)).drew = .ok (kv k) ((w0.alloc o).alloc (.map kEs 3)).drew) := by
  refine ⟨look_no k (heap_alloc_new w0 _), fun o => look_no k ?_, fun o => look_no k ?_⟩
  · show ((w0.alloc (.map kEs 3)).alloc o).heap[_]? = _
    rw [heap_alloc_old _ _ (by show _ < (w0.heap.push _).size; simp)]; exact heap_alloc_new w0 _
  · show ((w0.alloc o).alloc (.map kEs 3)).heap[_]? = _
    rw [show w0.heap.size + 1 = (w0.alloc o).heap.size from by show _ = (w0.heap.push _).size; simp]
    exact heap_alloc_new _ _
theorem bld_world (w : World) : ∃ w0 : World, (w.alloc (.cells #[.pointer none, .slice none 0 0] 77)) = w0 ∧ BS w0 w.heap.size [] ∧ Below w.heap.size w w0 :=
  ⟨_, rfl, BS.new w, below_alloc w _⟩
theorem kA_1 : kA 1 = 45 := rfl
theorem kA_2 : kA 2 = 47 := rfl
theorem kA_3 : kA 3 = 49 := rfl
set_option maxHeartbeats 4000000 in
set_option maxRecDepth 100000 in
theorem text_yes (ao : Option Addr) (cap : Nat) (L : List Sp) (w : World) (hA : Sps w ao L) (hl : L.length ≤ 200) (hv : allB L = true) (hL : Lay w) : Calls Tryd.prog 16 #[.slice ao L.length cap] w fun e w' =>
    e = .returned (.tuple #[.string ⟨(textL L).toArray⟩, .int .i64 0]) ∧ Below w.heap.size w w' := by
  have HA := hid (fun (w : World) (h : Sps w ao L) => all_any ao cap L w h (by omega))
  rw [hv] at HA
  have hform : ∀ s ∈ L, formB s = true := by
    unfold allB at hv
    simp only [Bool.and_eq_true, decide_eq_true_eq, List.all_eq_true] at hv
    exact hv.2
  have HF := hid hform
  clear hform hv
  generalize hn : L.length = len at *
  have HN := hid hn
  clear hn
  go_enter Tryd.func16, Tryd.ntmps16
  go_wp2_with fail
  refine (HA.out _ hA).mono ?_
  rintro e w1 ⟨rfl, hB1⟩
  go_wp2_with fail
  obtain ⟨w2, hw2, hbs, hB2⟩ := bld_world w1
  rw [hw2]
  clear hw2
  have hBx : Below w.heap.size w w2 := hB1.trans (hB2.mono hB1.size)
  have hbB : w.heap.size ≤ w1.heap.size := hB1.size
  generalize w1.heap.size = bb at *
  clear hB1 hB2
  go_loopw [15] (fun s15 wr => ∃ k : Nat, s15 = .int .i64 k ∧ k ≤ len ∧ BS wr bb (textL (L.take k)) ∧ Below w.heap.size w wr) (fun s15 _ => len - (intOf s15).toNat)
  case atStart => exact ⟨0, rfl, by omega, hbs, hBx⟩
  case round =>
    clear hbs hBx
    obtain ⟨wo, hwo⟩ : ∃ wo : World, wo = wr := ⟨_, rfl⟩
    subst hwo
    obtain ⟨k, rfl, hk, hbs, hB⟩ := hrel
    have hbl := hbs.lt
    by_cases hkl : k < len
    · obtain ⟨s, hs⟩ : ∃ t, L[k]? = some t := ⟨_, List.getElem?_eq_getElem (by rw [HN.out]; omega)⟩
      obtain ⟨b, off, ea, hb, a0, a1, a2, a3, a4⟩ := (hA.below hB).at hs
      subst ea
      clear hb
      have HT := hid (textL_snoc hs)
      have HFs := hid (HF.out s (List.mem_of_getElem? hs))
      clear hs
      have hlen : (textL (L.take k)).length ≤ 100000 := by
        have := textL_len (L := L.take k) (fun s h => HF.out s (List.mem_of_mem_take h))
        rw [List.length_take] at this
        omega
      generalize textL (L.take k) = T0 at *
      have HK := hid (fun w => kinds_is w)
      obtain ⟨sk, sq, sn, sa, sb⟩ := s
      simp only at a0 a1 a2 a3 a4
      go_wp2_with fail
      obtain ⟨w3, hw3, hx, hB3⟩ := sp_world sk sq sn sa sb wo
      rw [hw3]
      clear hw3 a0 a1 a2 a3 a4
      replace hbs := hbs.below hB3
      replace hB := hB.trans (hB3.mono hB.size)
      have hxb : bb < wo.heap.size := hbl
      clear hB3 hbl
      generalize wo.heap.size = xb at *
      have hK : isK sk = true := by
        have := HFs.out
        unfold formB at this
        simp only [Bool.and_eq_true] at this
        exact this.1.1.1.1
      have x0 := hx.cell 0
      simp only [List.getElem?_cons_zero] at x0
      obtain ⟨L1, L2, L3⟩ := look3n w3 sk
      obtain ⟨A1, A2⟩ := cell2 x0
      rw [kv_yes hK] at L1
      simp only [kv_yes hK] at L2 L3
      go_upto_region 1 with fail
      go_cut [7] from 19 to 22 (fun s7 wx => ∃ kb, s7 = .pointer (some ⟨kb, 0, none⟩) ∧ xb < kb ∧ Blk wx kb 65 [.string (kw sk), .func (Fn.func (kA sk)) #[] #[], .func (Fn.func (kB sk)) #[] #[]] ∧ Below w3.heap.size w3 wx)
      case first =>
        go_region_with (refine (HK.out _).mono ?_; rintro e w' ⟨rfl, rfl⟩)
        all_goals
          go_wp2_with fail
          go_meet
          case rel => exact ⟨_, rfl, by have := hx.lt; omega, by first | exact blk_n1 _ _ _ _ | exact blk_n2 _ _ _ _, (below2 (Below.refl _ _) (Nat.le_refl _) _ _).drew⟩
      case rest =>
        clear x0 A1 A2 L1 L2 L3 HK
        obtain ⟨kb, rfl, hkb, hkx, hB4⟩ := hcut
        replace hx := hx.below hB4 hx.lt
        replace hbs := hbs.below hB4
        replace hB := hB.trans (hB4.mono hB.size)
        rw [kw_kwL hK] at hkx
        clear hB4
        have hofs := hid (fun o h => getB HFs.out (o := o) h)
        have hmom := hid (momsB HFs.out)
        have hnl := hid (fun i => numsT_len HFs.out ((offsK sk).take i) (fun _ h => List.mem_of_mem_take h))
        clear HFs
        have hkl7 := kwL_len sk
        have hol := offsK_len sk
        unfold textS at HT
        have ho12 : Hid (∀ o ∈ offsK sk, o = 1 ∨ o = 2) := by
          rcases isK_iff.1 hK with h | h | h <;> rw [h] <;> simp [offsK, Hid]
        simp only at HT hofs hmom hnl
        obtain ⟨kw0, hkk⟩ : ∃ l, kwL sk = l := ⟨_, rfl⟩
        rw [hkk] at HT hkx hkl7
        clear hkk
        have y0 := hkx.cell 0
        simp only [List.getElem?_cons_zero] at y0
        have hxk : xb ≠ kb := by omega
        have hbk : bb ≠ kb := by omega
        have hbx : bb ≠ xb := by omega
        go_wp2_with fail
        refine (write_any bb T0 kw0 wc hbs (by omega)).mono ?_
        rintro e w5 ⟨rfl, hW⟩
        replace hx := hx.others hW.kept hbx.symm (by decide)
        replace hkx := hkx.others hW.kept hbk.symm (by decide)
        replace hbs := hW.bld
        replace hB := hB.trans (hW.below.mono hbB)
        clear hW y0
        have y1 := hkx.cell 1
        simp only [List.getElem?_cons_succ, List.getElem?_cons_zero] at y1
        go_upto_region 9 with fail
        go_cut [28, 29, 30] from 26 to 30 (fun s28 s29 s30 wx => ∃ ao, s28 = .slice ao (offsK sk).length (offsK sk).length ∧ s29 = .int .i64 ((offsK sk).length : Nat) ∧ s30 = .int .i64 0 ∧ SlV wx ao ((offsK sk).map (fptr xb)) ∧ (∀ b off, ao = some ⟨b, off, none⟩ → w5.heap.size ≤ b ∧ ∃ cs, Blk wx b 68 cs) ∧ Below w5.heap.size w5 wx)
        case first =>
          clear hx hbs hB hkx hofs hmom hnl HT ho12
          rcases isK_iff.1 hK with rfl | rfl | rfl
          · simp only [kA_1] at y1
            go_wp2_with fail
            refine (numb1 xb _).mono ?_
            rintro e w6 ⟨v, rfl, ⟨ao2, rfl, hsl, hnew⟩, hB6⟩  ;go_wp2_with fail  ;go_meet  ;case rel => exact ⟨_, rfl, rfl, rfl, hsl, hnew, hB6⟩
          · simp only [kA_2] at y1
            go_wp2_with fail
            refine (numb3 xb _).mono ?_
            rintro e w6 ⟨v, rfl, ⟨ao2, rfl, hsl, hnew⟩, hB6⟩  ;go_wp2_with fail  ;go_meet  ;case rel => exact ⟨_, rfl, rfl, rfl, hsl, hnew, hB6⟩
          · simp only [kA_3] at y1
            go_wp2_with fail
            refine (numb5 xb _).mono ?_
            rintro e w6 ⟨v, rfl, ⟨ao2, rfl, hsl, hnew⟩, hB6⟩  ;go_wp2_with fail  ;go_meet  ;case rel => exact ⟨_, rfl, rfl, rfl, hsl, hnew, hB6⟩
        case rest =>
        have hxl5 : xb < w5.heap.size := hx.lt
        obtain ⟨ao2, rfl, rfl, rfl, hsl, hnew, hB6⟩ := hcut
        clear y1 hK
        generalize offsK sk = os at *
        replace hx := hx.below hB6 hx.lt
        replace hbs := hbs.below hB6
        replace hB := hB.trans (hB6.mono hB.size)
        clear hB6 hkx
        go_wp2_with fail
        go_loopw [30] (fun s30 wn => ∃ i : Nat, s30 = .int .i64 i ∧ i ≤ os.length ∧ BS wn bb (T0 ++ kw0 ++ numsT ⟨sk, sq, sn, sa, sb⟩ (os.take i)) ∧ Blk wn xb 32 [.int .i64 sk, .int .i64 sq, .int .i64 sn, .int .i64 sa, .int .i64 sb] ∧
            SlV wn ao2 (os.map (fptr xb)) ∧ (∀ b off, ao2 = some ⟨b, off, none⟩ → bb < b ∧ ∃ cs, Blk wn b 68 cs) ∧ Below w.heap.size w wn) (fun s30 _ => os.length - (intOf s30).toNat)
        case atStart => exact ⟨0, rfl, by omega, by simpa [numsT] using hbs, hx, hsl, fun b off h => ⟨by have := (hnew b off h).1; omega, (hnew b off h).2⟩, hB⟩
        case round =>
          clear hbs hx hsl hnew hB
          obtain ⟨i, rfl, hi, hbs, hx, hsl, hnew, hB⟩ := hrel
          by_cases hil : i < os.length
          · obtain ⟨o, ho⟩ : ∃ o, os[i]? = some o := ⟨_, List.getElem?_eq_getElem hil⟩
            have hoo := hid (ho12.out o (List.mem_of_getElem? ho))
            have hog := hid (hofs.out o (List.mem_of_getElem? ho))
            obtain ⟨b, off, hao, hb, hcell⟩ := hsl.cell i (fptr xb o) (by rw [List.getElem?_map, ho]; rfl)
            subst hao
            unfold fptr at hcell
            have htk : numsT ⟨sk, sq, sn, sa, sb⟩ (os.take (i + 1)) = numsT ⟨sk, sq, sn, sa, sb⟩ (os.take i) ++ (32 :: Lib.itoa (Sp.get ⟨sk, sq, sn, sa, sb⟩ o)) := by
              unfold numsT; rw [List.take_add_one, ho, List.flatMap_append]; simp
            have HTK := hid htk
            have hnl1 := hnl.out i
            rw [List.length_take] at hnl1
            clear hb ho htk
            have hgv : Hid (wr.cell? ⟨xb, o, none⟩ = some (.int .i64 (Sp.get ⟨sk, sq, sn, sa, sb⟩ o))) := by
              unfold Hid
              rw [hx.cell]
              rcases hoo.out with rfl | rfl <;> rfl
            have hg := hgv.out
            generalize Sp.get ⟨sk, sq, sn, sa, sb⟩ o = gv at *
            go_wp2_with fail
            refine (itoa_any gv wr ⟨by have := hog.out; omega, by have := hog.out; omega⟩ (hL.below hB)).mono ?_
            rintro e w8 ⟨rfl, hB8⟩
            have hil2 := itoa_len (n := gv) (by have := hog.out; omega)
            go_wp2_with fail
            refine (write_str bb _ _ w8 (hbs.below hB8) ?_).mono ?_
            · simp
              omega
            rintro e w9 ⟨⟨n9, rfl⟩, hW⟩
            clear hg hcell
            go_wp2_with fail
            go_roundw
            case rel =>
              refine ⟨i + 1, by go_num, by omega, ?_, (hx.below hB8 hx.lt).others hW.kept hbx.symm (by decide), ?_, ?_, (hB.trans (hB8.mono hB.size)).trans (hW.below.mono hbB)⟩
              · rw [HTK.out]
                have := hW.bld
                simpa using this
              · exact (hsl.below hB8).others (T := 68) hW.kept hW.below (fun g off' h => by
                  cases h
                  obtain ⟨h1, cs, h2⟩ := hnew b off rfl
                  exact .inr ⟨cs, h2.below hB8 h2.lt, by omega⟩) (by decide)
              · intro b' off' h
                cases h
                obtain ⟨h1, cs, h2⟩ := hnew b off rfl
                exact ⟨h1, cs, (h2.below hB8 h2.lt).others hW.kept (by omega) (by decide)⟩
            case measure => simp [intOf]; omega
          · have hie : os.take i = os := List.take_of_length_le (by omega)
            rw [hie] at hbs
            have hnl1 := hnl.out i
            rw [hie] at hnl1
            clear hie hsl hnew ho12 hofs hnl
            generalize hNT : numsT ⟨sk, sq, sn, sa, sb⟩ os = NT at *
            clear hNT
            obtain ⟨⟨m1, m2⟩, ⟨m3, m4⟩, _⟩ := hmom.out
            have hia : i64B sa := ⟨by omega, by omega⟩
            have hib : i64B sb := ⟨by omega, by omega⟩
            have hla := itoa_len (n := sa) (by omega)
            have hlb := itoa_len (n := sb) (by omega)
            go_upto_region 14 with fail
            clear hmom m1 m2 m3 m4
            have hb0 : Below w.heap.size w wr.drew := hB.drew
            have hx0 : Blk wr.drew xb 32 [.int .i64 sk, .int .i64 sq, .int .i64 sn, .int .i64 sa, .int .i64 sb] := hx.drew
            have hbs0 : BS wr.drew bb (T0 ++ kw0 ++ NT) := hbs
            have hLB := hid (fun (n : Int) (w' : World) (hn : i64B n) (hb : Below w.heap.size w w') => itoa_any n w' hn (hL.below hb))
            have x3 := hx.cell 3
            have x4 := hx.cell 4
            simp only [List.getElem?_cons_succ, List.getElem?_cons_zero] at x3 x4
            go_region_with (first
              | (go_at_call 37; refine Calls.mono (hLB.out _ _ (by first | exact hia | exact hib) (by first | exact hbq | exact hb0)) ?_; rintro e wq ⟨rfl, hBq⟩; have hbq := (by first | exact hbq.trans (hBq.mono hbq.size) | exact hb0.trans (hBq.mono hb0.size) : Below w.heap.size w wq); have hxq := (by first | exact hxq.below hBq hxq.lt | exact hx0.below hBq hx0.lt : Blk wq xb 32 [.int .i64 sk, .int .i64 sq, .int .i64 sn, .int .i64 sa, .int .i64 sb]); have hbsq := (by first | exact hbsq.below hBq | exact hbs0.below hBq : BS wq bb (T0 ++ kw0 ++ NT)); have x3q := hxq.cell 3; have x4q := hxq.cell 4; simp only [List.getElem?_cons_succ, List.getElem?_cons_zero] at x3q x4q)
              | (go_at_call 36; refine Calls.mono (write_str bb (T0 ++ kw0 ++ NT) _ _ hbsq (by simp; omega)) ?_; rintro e wz ⟨⟨nz, rfl⟩, hW⟩))
            all_goals
              go_wp2_with fail
            all_goals
              go_roundw
              case rel => exact ⟨k + 1, by go_num, by omega, by rw [HT.out]; have := hW.bld; simpa using this, hbq.trans (hW.below.mono hbB)⟩
              case measure => simp [intOf]; omega
    · have hke : L.take k = L := List.take_of_length_le (by rw [HN.out]; omega)
      rw [hke] at hbs
      clear hke
      have HS := hid (Tryd.Builder_String_any bb bb (textL L) wo hbs (Nat.le_of_lt hbs.lt))
      go_wp2_with fail
      refine HS.out.mono ?_
      rintro e w9 ⟨rfl, hB9⟩
      go_wp2_with fail
      go_ret2
      exact ⟨rfl, hB.trans (hB9.mono hbB)⟩
end Go.Proofs.YtbkheiilcfhfpaaDoor
