/- weather: Parse -/
import Derived.Test.YtbkheiilcfhfpaaDoorWeaDoor
import Derived.Test.YtbkheiilcfhfpaaDoorWeaNum
import Derived.Test.YtbkheiilcfhfpaaDoorMapR
import Derived.Deep.CutRange
import Derived.Deep.RegionWith
namespace Go.Proofs.YtbkheiilcfhfpaaDoor
open Go.RowKit

theorem lex_any3 (s : ByteArray) (w : World) (hs : s.size ≤ 1000000) : Calls Tryd.prog 22 #[.string s] w fun e w' =>
    ∃ ao cap, e = .returned (.tuple #[.slice ao (lexL s.data.toList).1.length cap, .int .i64 (lexL s.data.toList).2.1, .int .i64 (lexL s.data.toList).2.2]) ∧ Toks w' ao (lexL s.data.toList).1 ∧ Below w.heap.size w w' ∧ (lexL s.data.toList).1.length ≤ cap ∧ cap ≤ maxLen ∧ (∀ b off, ao = some ⟨b, off, none⟩ → w.heap.size ≤ b) := by
  refine (lex_any s w hs).mono ?_
  rintro e w' ⟨v, rfl, hm⟩
  have hl := lexL_len s.data.toList
  obtain ⟨ao, cap, rfl, hsl, h0, h1, h2⟩ := hm.slv (by rw [toksCells_len]; unfold maxLen; omega)
  exact ⟨ao, cap, rfl, hsl, hm.below, h1, h2, h0⟩
theorem blk_n (u : World) (n : Nat) (c : Array Value) (T : TypeId) (h : u.heap.size = n) : Blk (u.alloc (.cells c T)) n T c.toList := by subst h; exact Blk.new u c T
theorem parse_world (s : ByteArray) (w : World) : ∃ w0 : World, ((((w.alloc (.cells #[.string s] 9)).alloc (.cells #[.slice none 0 0] 22)).alloc (.cells #[.int .i64 0] 27)).alloc (.cells #[.int .i64 0] 3)) = w0 ∧
    Blk w0 w.heap.size 9 [.string s] ∧ Blk w0 (w.heap.size + 1) 22 [.slice none 0 0] ∧ Blk w0 (w.heap.size + 1 + 1) 27 [.int .i64 0] ∧ Blk w0 (w.heap.size + 1 + 1 + 1) 3 [.int .i64 0] ∧ Below w.heap.size w w0 ∧ w0.heap.size = w.heap.size + 1 + 1 + 1 + 1 := by
  refine ⟨_, rfl, (((Blk.new w _ _).alloc _).alloc _).alloc _, ((blk_n _ _ _ _ (by simp)).alloc _).alloc _, (blk_n _ _ _ _ (by simp)).alloc _, blk_n _ _ _ _ (by simp), ?_, by simp⟩
  exact (((below_alloc w _).alloc (by simp) _).alloc (by simp; omega) _).alloc (by simp; omega) _
/-- the boxes' places -/
structure Bx (n0 sb ob eb ab tb nb B : Nat) : Prop where
  lo : n0 ≤ sb ∧ n0 ≤ ob ∧ n0 ≤ eb ∧ n0 ≤ ab ∧ n0 ≤ tb ∧ n0 ≤ nb
  hi : sb < B ∧ ob < B ∧ eb < B ∧ ab < B ∧ tb < B ∧ nb < B
  tk : sb ≠ tb ∧ ob ≠ tb ∧ eb ≠ tb ∧ ab ≠ tb ∧ nb ≠ tb
  out : sb ≠ ob ∧ eb ≠ ob ∧ ab ≠ ob ∧ nb ≠ ob
  ea : eb ≠ ab
structure PS (w0 w : World) (sb ob eb ab nb B : Nat) (tb : Nat) (s : ByteArray) (v : Value) (L : List Sp) : Prop where
  below : Below w0.heap.size w0 w
  text : Blk w sb 9 [.string s]
  out : Blk w ob 22 [v]
  err : ∃ e, Blk w eb 27 [.int .i64 e]
  at_ : ∃ n, Blk w ab 3 [.int .i64 n]
  next : Blk w nb 58 [nextV tb sb]
  own : w.ownsRow B 32 5 v L.length (spsCells L)
  base : B ≤ w.heap.size
theorem PS.chg {w0 w w' : World} {sb ob eb ab nb B tb : Nat} {s : ByteArray} {v : Value} {L : List Sp} (h : PS w0 w sb ob eb ab nb B tb s v L) (hc : Chg (fun k => k = tb) w w') (hx : Bx w0.heap.size sb ob eb ab tb nb B) : PS w0 w' sb ob eb ab nb B tb s v L := by
  obtain ⟨e0, he⟩ := h.err
  obtain ⟨a0, ha⟩ := h.at_
  exact ⟨h.below.trans (hc.toBelow h.below.size (by rintro k rfl; exact hx.lo.2.2.2.2.1)), h.text.chg hc hx.tk.1, h.out.chg hc hx.tk.2.1, ⟨_, he.chg hc hx.tk.2.2.1⟩, ⟨_, ha.chg hc hx.tk.2.2.2.1⟩, h.next.chg hc hx.tk.2.2.2.2,
    ownsRow_chgN h.own hc (fun k hk => by have := (h.own.lt k hk).1; have := hx.hi.2.2.2.2.1; omega), Nat.le_trans h.base hc.size⟩
theorem PS.bad {tmps : Array Value} {w0 w : World} {sb ob eb ab nb B tb : Nat} {s : ByteArray} {v : Value} {L : List Sp} {x n : Int} (h : PS w0 w sb ob eb ab nb B tb s v L) (hx : Bx w0.heap.size sb ob eb ab tb nb B) (hR : parseL s.data.toList = ([], x, n))
    (h2 : tmps[2]?.getD undef = .pointer (some ⟨ob, 0, none⟩)) (h3 : tmps[3]?.getD undef = .pointer (some ⟨eb, 0, none⟩)) (h4 : tmps[4]?.getD undef = .pointer (some ⟨ab, 0, none⟩)) :
    Leaves Tryd.prog Tryd.f14 tmps (ParsePost w0 s.data.toList) [{ target := .fn (Fn.func 26) #[.pointer (some ⟨ob, 0, none⟩), .pointer (some ⟨eb, 0, none⟩), .pointer (some ⟨ab, 0, none⟩)], args := #[] }] (.panicking [{ v := failV x n, recovered := false }]) w :=
  door_bad hR h2 h3 h4 h.out h.err h.at_ hx.out.2.1.symm hx.out.2.2.1.symm hx.ea hx.lo.2.1 hx.lo.2.2.1 hx.lo.2.2.2.1 h.below
/-- how many tokens the box holds -/
def tokLen (w : World) (tb : Nat) : Nat :=
  match w.heap[tb]? with
  | some (Obj.cells cs _ _) => match (cs[0]? : Option Value) with
    | some (Value.slice _ n _) => n
    | _ => 0
  | _ => 0
theorem TokSt.len {w : World} {tb : Nat} {ts : List Tok} (h : TokSt w tb ts) : tokLen w tb = ts.length := by
  obtain ⟨ao, cap, hb, _⟩ := h
  unfold tokLen
  rw [show w.heap[tb]? = _ from hb]
  rfl
theorem sp0_world (w : World) : ∃ w0 : World, (w.alloc (.cells #[.int .i64 0, .int .i64 0, .int .i64 0, .int .i64 0, .int .i64 0] 32)) = w0 ∧ Blk w0 w.heap.size 32 sp0.cells ∧ Below w.heap.size w w0 :=
  ⟨_, rfl, Blk.new w _ _, below_alloc w _⟩
theorem TokSt.chgOut {S : Nat → Prop} {w w' : World} {tb ob : Nat} {ts : List Tok} {T : TypeId} {a : Option Addr} {n c : Nat} (h : TokSt w tb ts) (ho : Blk w ob T [.slice a n c]) (hc : Chg S w w') (hs : ∀ q, S q → q = ob ∨ tb < q) (hot : ob ≠ tb) : TokSt w' tb ts := by
  obtain ⟨ao, cap, hb, hT, h1, h2, h3⟩ := h
  refine ⟨ao, cap, hb.chg hc (fun h => by have := hs _ h; omega), ?_, h1, h2, h3⟩
  cases ts with
  | nil => exact ⟨by simp [toksCells], by simp [toksCells]⟩
  | cons t ts =>
    obtain ⟨b, off, rfl, hlt⟩ := h3 (by simp)
    refine SlV.chg hT hc (fun b' off' e _ h => ?_)
    cases e
    rcases hs _ h with rfl | h
    · obtain ⟨b1, off1, e1, _, a0, _⟩ := hT.get (i := 0) rfl
      cases e1
      rw [ho.cell] at a0
      cases h4 : off + (4 * 0 + 0) with
      | zero => rw [h4] at a0; simp at a0
      | succ m => rw [h4] at a0; simp at a0
    · omega
theorem spsCells_snoc (L : List Sp) (s : Sp) : spsCells (L ++ [s]) = spsCells L ++ s.cells := by simp [spsCells]
theorem Tryd.infoSpell : (Tryd.prog.info? 32).map (fun i => (i.zero, i.size, i.bytes)) = some (some (.agg #[.int .i64 0, .int .i64 0, .int .i64 0, .int .i64 0, .int .i64 0]), 5, 40) := by kernel_rfl
theorem wp_normal {P : Program} {c : Code} {K : Act → World → Prop} {Q0 : Exit → Act → World → Prop} {a : Act} {w : World} (h : c.wp P (fun e a w => match e with | .normal => K a w | _ => False) a w) : c.wp P (Exit.then K Q0) a w :=
  fun b k cs => let ⟨e, a', w', q, r⟩ := h b k cs; ⟨e, a', w', by cases e <;> first | exact q | exact q.elim, r⟩
theorem fld1 (w : World) : (Instr.field 65 (.agg #[.string ⟨#[99, 108, 111, 117, 100]⟩, .func (Fn.func 45) #[] #[], .func (Fn.func 46) #[] #[]]) 1).run Tryd.prog w = .ok (.func (Fn.func 45) #[] #[]) w := by kernel_rfl
theorem fld2 (w : World) : (Instr.field 65 (.agg #[.string ⟨#[115, 101, 101, 105, 110, 103]⟩, .func (Fn.func 47) #[] #[], .func (Fn.func 48) #[] #[]]) 1).run Tryd.prog w = .ok (.func (Fn.func 47) #[] #[]) w := by kernel_rfl
theorem fld3 (w : World) : (Instr.field 65 (.agg #[.string ⟨#[99, 108, 111, 115, 101, 100]⟩, .func (Fn.func 49) #[] #[], .func (Fn.func 50) #[] #[]]) 1).run Tryd.prog w = .ok (.func (Fn.func 49) #[] #[]) w := by kernel_rfl
theorem fld_tokN (k n a : Int) (tx : ByteArray) (w : World) : (Instr.field 50 (.agg #[.int .i64 k, .string tx, .int .i64 n, .int .i64 a]) 2).run Tryd.prog w = .ok (.int .i64 n) w := by kernel_rfl
theorem kindOf_inv1 {t : List UInt8} (h : kindOf t = 1) : t = wCloud := by
  unfold kindOf at h; split at h
  · assumption
  · split at h
    · cases h
    · split at h <;> cases h
theorem kindOf_inv2 {t : List UInt8} (h : kindOf t = 2) : t = wSeeing := by
  unfold kindOf at h; split at h
  · cases h
  · split at h
    · assumption
    · split at h <;> cases h
theorem kindOf_inv3 {t : List UInt8} (h : kindOf t = 3) : t = wClosed := by
  unfold kindOf at h; split at h
  · cases h
  · split at h
    · cases h
    · split at h
      · assumption
      · cases h
theorem kEs_born : ∀ x ∈ kEs.toList, x.born < 3 := by intro x hx; simp [kEs] at hx; rcases hx with rfl | rfl | rfl <;> decide
theorem kEs_nodup : (kEs.toList.map (·.born)).Nodup := by decide
set_option maxHeartbeats 4000000 in
set_option maxRecDepth 100000 in
theorem parse_any (s : ByteArray) (w : World) (hs : s.size ≤ 1000000) : Calls Tryd.prog 14 #[.string s] w (ParsePost w s.data.toList) := by
  have hmf : ∀ (fn : Fn) (first cap : Array Value) (w : World), (Instr.makeFunc fn first cap).run Tryd.prog w = .ok (.func fn first cap) w := fun _ _ _ _ => rfl
  have HL := hid (fun w => lex_any3 s w hs)
  have HP := hid (rfl : parseL s.data.toList = parseL s.data.toList)
  unfold Hid at HP
  conv at HP => rhs; unfold parseL
  have HPh := hid HP
  clear HP
  generalize hl : lexL s.data.toList = R at HL HPh
  obtain ⟨T, x, n⟩ := R
  go_enter_defers Tryd.func14, Tryd.ntmps14
  go_wp2_with fail
  obtain ⟨w0, hw0, hsb, hob, heb, hab, hB, hsz⟩ := parse_world s w
  rw [hw0]
  clear hw0
  refine (HL.out _).mono ?_
  rintro e w1 ⟨ao, cap, rfl, hT, hB1, hc1, hc2, hao⟩
  replace hsb := hsb.below hB1 hsb.lt
  replace hob := hob.below hB1 hob.lt
  replace heb := heb.below hB1 heb.lt
  replace hab := hab.below hB1 hab.lt
  have hs1 : w.heap.size + 1 + 1 + 1 < w1.heap.size := by have := hB1.size; omega
  replace hB := hB.trans (hB1.mono hB.size)
  have hao2 : ∀ b off, ao = some ⟨b, off, none⟩ → w.heap.size + 1 + 1 + 1 < b := fun b off h => by have := hao b off h; omega
  clear hsz hB1 hao
  generalize h0 : w.heap.size = sb at hsb hob heb hab hs1 hB hao2 ⊢
  generalize h1 : sb + 1 = ob at hob heb hab hs1 hao2 ⊢
  generalize h2 : ob + 1 = eb at heb hab hs1 hao2 ⊢
  generalize h3 : eb + 1 = ab at hab hs1 hao2 ⊢
  have n1 : ob ≠ sb := by omega
  have n2 : eb ≠ sb := by omega
  have n3 : ab ≠ sb := by omega
  have n4 : ob ≠ eb := by omega
  have n5 : ob ≠ ab := by omega
  have n6 : eb ≠ ab := by omega
  have n7 : sb ≤ ob := by omega
  have n8 : sb ≤ eb := by omega
  have n9 : sb ≤ ab := by omega
  have n10 : sb ≤ ab ∧ ob ≤ ab ∧ eb ≤ ab := by omega
  have HS := hid h0
  clear h0 h1 h2 h3
  have c1 : ∀ o, (w1.alloc o).cell? ⟨eb, 0, none⟩ = some (.int .i64 0) := fun o => (heb.alloc o).cell 0
  have c2 : ∀ o v, ((w1.alloc o).setCell ⟨eb, 0, none⟩ v).cell? ⟨ab, 0, none⟩ = some (.int .i64 0) := fun o v => ((hab.alloc o).other _ n6.symm v).cell 0
  have f1 : ∀ o, (w1.alloc o).frozen? ⟨eb, 0, none⟩ = false := fun o => (heb.alloc o).free 0
  have f2 : ∀ o v, ((w1.alloc o).setCell ⟨eb, 0, none⟩ v).frozen? ⟨ab, 0, none⟩ = false := fun o v => ((hab.alloc o).other _ n6.symm v).free 0
  have htl := Blk.new w1 #[.slice ao T.length cap] 46
  obtain ⟨tb, htb⟩ : ∃ tb, w1.heap.size = tb := ⟨_, rfl⟩
  rw [htb] at htl
  cases hx : (x != 0) with
  | true =>
    have hR : parseL s.data.toList = ([], x, n) := by rw [HPh.out, if_neg (by simpa using hx)]
    go_wp2_with fail
    clear hmf HL HPh hl hx c1 c2 f1 f2
    have hT2 : ∃ W : World, W = ((w1.alloc (.cells #[.slice ao T.length cap] 46)).setCell ⟨eb, 0, none⟩ (.int .i64 x)).setCell ⟨ab, 0, none⟩ (.int .i64 n) := ⟨_, rfl⟩
    obtain ⟨W, hW⟩ := hT2
    have k1 : Blk W ob 22 [.slice none 0 0] := by rw [hW]; exact ((hob.alloc _).other _ n4 _).other _ n5 _
    have k2 : Blk W eb 27 [.int .i64 x] := by rw [hW]; exact ((heb.alloc _).set 0 _).other _ n6 _
    have k3 : Blk W ab 3 [.int .i64 n] := by rw [hW]; exact ((hab.alloc _).other _ n6.symm _).set 0 _
    have kB : Below sb w W := by rw [hW]; exact ((hB.alloc (by omega) _).setCell n8 _).setCell n9 _
    rw [← hW]
    clear hW hsb hob heb hab
    have d1 := k1.cell 0
    have d2 := k2.cell 0
    have d3 := k3.cell 0
    have g1 := k1.free 0
    have g2 := k2.free 0
    have g3 := k3.free 0
    simp only [List.getElem?_cons_zero] at d1 d2 d3
    go_region
    go_wp2_with fail
    have m1 := ((((k1.set 0 (.slice none 0 0)).other ⟨eb, 0, none⟩ n4 (.int .i64 x)).other ⟨ab, 0, none⟩ n5 (.int .i64 n)).drew).cell 0
    have m2 := ((((k2.other ⟨ob, 0, none⟩ n4.symm (.slice none 0 0)).set 0 (.int .i64 x)).other ⟨ab, 0, none⟩ n6 (.int .i64 n)).drew).cell 0
    have m3 := ((((k3.other ⟨ob, 0, none⟩ n5.symm (.slice none 0 0)).other ⟨eb, 0, none⟩ n6.symm (.int .i64 x)).set 0 (.int .i64 n)).drew).cell 0
    simp only [List.set_cons_zero, List.getElem?_cons_zero] at m1 m2 m3
    refine ⟨_, results_cell3 rfl _ _ ob eb ab (.slice none 0 0) (.int .i64 x) (.int .i64 n) rfl rfl rfl (by simp [go_sem, m1]) (by simp [go_sem, m2]) (by simp [go_sem, m3]), ?_⟩
    refine ⟨_, by rw [hR], ?_⟩
    rw [hR, HS.out]
    exact MineN.start ((((kB.setCell n7 _).setCell n8 _).setCell n9 _).drew) (by have := kB.size; have := HS.out; simp; omega)
  | false =>
    have hx0 : Hid (x = 0) := by simpa [Hid] using hx
    have HG : Hid (parseL s.data.toList = joinS [] (goP s.size (T.length + 1) 0 T)) := by
      rw [joinS_nil _ (goP_err _ _ _ _), HPh.out, if_pos hx0.out, ← Lib.size_eq s]; rfl
    clear HPh hl
    go_wp2_with fail
    clear hmf HL hx
    obtain ⟨W, hW⟩ : ∃ W : World, W = ((((w1.alloc (.cells #[.slice ao T.length cap] 46)).setCell ⟨eb, 0, none⟩ (.int .i64 x)).setCell ⟨ab, 0, none⟩ (.int .i64 n)).alloc (.cells #[.func (Fn.func 27) #[] #[.pointer (some ⟨tb, 0, none⟩), .pointer (some ⟨sb, 0, none⟩)]] 58)) := ⟨_, rfl⟩
    rw [← hW]
    obtain ⟨nb, hnb⟩ : ∃ nb, tb + 1 = nb := ⟨_, rfl⟩
    rw [hnb]
    have hbx : Bx w.heap.size sb ob eb ab tb nb (nb + 1) := by
      rw [HS.out]
      exact ⟨by omega, by omega, by omega, ⟨by omega, by omega, by omega, by omega⟩, n6⟩
    have hC : Chg (fun k => k = eb ∨ k = ab ∨ w1.heap.size ≤ k) w1 W := by
      rw [hW]
      exact ((((Chg.refl _ w1).alloc _).set (.inl rfl) _).set (.inr (.inl rfl)) _).alloc _
    have hps : PS w W sb ob eb ab nb (nb + 1) tb s (.slice none 0 0) [] := by
      refine ⟨?_, ?_, ?_, ⟨x, ?_⟩, ⟨n, ?_⟩, ?_, World.ownsRow_nil _ _ _ _, ?_⟩
      · rw [HS.out]; exact hB.trans (hC.toBelow (by omega) (by omega))
      · exact hsb.chg hC (by omega)
      · exact hob.chg hC (by omega)
      · rw [hW]; exact (((heb.alloc _).set 0 _).other _ n6 _).alloc _
      · rw [hW]; exact (((hab.alloc _).other _ n6.symm _).set 0 _).alloc _
      · rw [hW]; exact blk_n _ _ _ _ (by simp [World.setCell]; omega)
      · rw [hW]; simp [World.setCell]; omega
    have htk : TokSt W tb T := by
      refine ⟨ao, cap, ?_, ?_, hc1, hc2, ?_⟩
      · rw [hW]; exact ((htl.other _ (by exact fun h => by simp at h; omega) _).other _ (by exact fun h => by simp at h; omega) _).alloc _
      · cases hTT : T with
        | nil => exact ⟨by simp [toksCells], by simp [toksCells]⟩
        | cons a T2 =>
          rw [hTT] at hT
          refine SlV.chg hT hC (fun b off h hb => ?_)
          have := hao2 b off h
          omega
      · intro hTne
        cases hTT : T with
        | nil => exact absurd hTT hTne
        | cons a T2 =>
          rw [hTT] at hT
          obtain ⟨b, off, e, hb, _⟩ := hT.get (i := 0) rfl
          exact ⟨b, off, e, by omega⟩
    clear hao2
    clear hW hC hsb hob heb hab htl hT hB c1 c2 f1 f2 n1 n2 n3 n4 n5 n6 n7 n8 n9 n10 hnb htb hs1
    go_loopw [8] (fun s8 wr => ∃ (f k : Nat) (L : List Sp) (ts : List Tok) (v : Value), k = L.length ∧ k ≤ 200 ∧ ts.length < f ∧ Hid (parseL s.data.toList = joinS L (goP s.size f k ts)) ∧ PS w wr sb ob eb ab nb (nb + 1) tb s v L ∧ TokSt wr tb ts) (fun _ wr => tokLen wr tb)
    case atStart => exact ⟨T.length + 1, 0, [], T, _, rfl, by omega, by omega, HG, hps, htk⟩
    case round =>
      clear hps htk HG
      obtain ⟨wo, hwo⟩ : ∃ wo : World, wo = wr := ⟨_, rfl⟩
      subst hwo
      obtain ⟨f, k, L, ts, v, hkL, hk, hf, HG, hps, htk⟩ := hrel
      obtain ⟨f, rfl⟩ : ∃ f', f = f' + 1 := ⟨f - 1, by omega⟩
      obtain ⟨aot, capt, htb, -, -, -, -⟩ := id htk
      have hct := htb.cell 0
      simp only [List.getElem?_cons_zero] at hct
      cases ts with
      | nil =>
        have hR : parseL s.data.toList = (L, 0, 0) := by rw [HG.out, goP, if_pos rfl]; simp [joinS]
        obtain ⟨e0, he⟩ := hps.err
        obtain ⟨a0, ha⟩ := hps.at_
        have ho := hps.out
        have d1 := ho.cell 0
        have d2 := he.cell 0
        have d3 := ha.cell 0
        have g1 := ho.free 0
        have g2 := he.free 0
        have g3 := ha.free 0
        simp only [List.getElem?_cons_zero] at d1 d2 d3
        have n4 := hbx.out.2.1
        have n5 := hbx.out.2.2.1
        have n6 := hbx.ea
        obtain ⟨aov, capv, rfl⟩ : ∃ ao cap, v = .slice ao L.length cap := by
          rcases hps.own.2 with ⟨e, h3⟩ | ⟨g, cap, cur, hv, hg, _⟩
          · exact ⟨none, 0, by rw [e, h3]⟩
          · exact ⟨_, cap, hv⟩
        go_wp2_with fail
        have hBw := hps.below
        refine door_ok (B := nb + 1) hR rfl rfl rfl (((ho.set 0 _).other _ n4.symm _).other _ n5.symm _) (((he.other _ n4 _).set 0 _).other _ n6 _) (((ha.other _ n5 _).other _ n6.symm _).set 0 _) ?_ ?_ (by have := hbx.lo; have := hbx.hi; omega)
        · exact ((hBw.setCell hbx.lo.2.1 _).setCell hbx.lo.2.2.1 _).setCell hbx.lo.2.2.2.1 _
        · refine ownsRow_chgN (S := fun k => k < nb + 1) hps.own ((((Chg.refl _ wo).set ?_ _).set ?_ _).set ?_ _) (fun k hk => by have := (hps.own.lt k hk).1; omega)
          · exact hbx.hi.2.1
          · exact hbx.hi.2.2.1
          · exact hbx.hi.2.2.2.1
      | cons t ts =>
        have hne : t :: ts ≠ [] := by simp
        have HB := hid (fun e n (h : oneP s.size k (t :: ts) = .bad e n) => round_bad HG.out hne h)
        have HO := hid (fun p r (h : oneP s.size k (t :: ts) = .ok p r) => round_ok HG.out hne h)
        have HM := htk.len
        have hlen : (t :: ts).length = ts.length + 1 := rfl
        rw [hlen] at hct
        generalize hTS : t :: ts = TS at *
        clear hTS hne HG htb
        have hcn := (hps.next).cell 0
        simp only [List.getElem?_cons_zero, nextV] at hcn
        have hcn2 : ∀ o, (wo.alloc o).cell? ⟨nb, 0, none⟩ = some (.func (Fn.func 27) #[] #[.pointer (some ⟨tb, 0, none⟩), .pointer (some ⟨sb, 0, none⟩)]) := fun o => (hps.next.alloc o).cell 0
        go_wp2_with fail
        clear hcn2 hcn hct
        obtain ⟨w3, hw3, hxb, hB3⟩ := sp0_world wo
        rw [hw3]
        clear hw3
        have hC : Chg (fun q => q = tb) wo w3 := Chg.ofBelow hB3
        replace htk := htk.below hB3
        have hxlt := hxb.lt
        have hxB : nb + 1 ≤ wo.heap.size := hps.base
        clear hB3
        obtain ⟨xb, hxbe⟩ : ∃ xb, wo.heap.size = xb := ⟨_, rfl⟩
        rw [hxbe] at hxb hxlt hxB ⊢
        have HXB := hid hxbe
        clear hxbe
        have hxt : xb ≠ tb := by have := hbx.hi; omega
        have hp3 := hps.chg hC hbx
        cases hn1 : nx s.size 1 TS with
        | bad e n =>
          refine (nx_is 1 tb sb s TS w3 ⟨htk, hp3.text, hbx.tk.1⟩ hs hn1).mono ?_
          rintro en w4 ⟨rfl, hC4⟩
          exact (hp3.chg hC4 hbx).bad hbx (HB.out _ _ (by unfold oneP judge spellP; rw [hn1])) rfl rfl rfl
        | ok wd r =>
          refine (nx_is 1 tb sb s TS w3 ⟨htk, hp3.text, hbx.tk.1⟩ hs hn1).mono ?_
          rintro en w4 ⟨rfl, htk4, hC4⟩
          have hp4 := hp3.chg hC4 hbx
          replace hxb := hxb.chg hC4 hxt
          have hl1 := nx_len hn1
          replace hC := hC.trans (hC4.mono (fun q hq h => h))
          have HE : Hid (oneP s.size k TS = judge k (if kindOf wd.t = 0 then .bad 5 wd.at_ else restP s.size (offsK (kindOf wd.t)) { sp0 with k := kindOf wd.t } r)) := by
            unfold Hid oneP spellP restP; rw [hn1]
          clear hn1 htk hp3 hC4
          have HK := hid (fun w => kinds_is w)
          unfold tokC
          have hkm := hid (heap_alloc_new (w4.alloc (.cells #[.int .i64 wd.k, .string ⟨wd.t.toArray⟩, .int .i64 wd.n, .int .i64 wd.at_] 50)) (.map kEs 3))
          go_wp2_with fail
          refine (HK.out _).mono ?_
          rintro en w5 ⟨rfl, hw5⟩
          have hm5 : w5.heap[w4.heap.size + 1]? = some (.map kEs 3) := by
            rw [hw5]; have := hkm.out; rw [World.size_alloc] at this; exact this
          have hB5 : Below w4.heap.size w4 w5 := by rw [hw5]; exact (below_alloc w4 _).alloc (by simp) _
          have hwb : Blk w5 w4.heap.size 50 [.int .i64 wd.k, .string ⟨wd.t.toArray⟩, .int .i64 wd.n, .int .i64 wd.at_] := by rw [hw5]; exact (Blk.new w4 _ _).alloc _
          have hsz5 : w5.heap.size = w4.heap.size + 1 + 1 := by rw [hw5]; simp
          simp only [World.size_alloc]
          clear hw5 hkm HK
          have hxw : xb < w4.heap.size := hxb.lt
          generalize hwbe : w4.heap.size = wb at hm5 hB5 hwb hsz5 hxw ⊢
          have HWB := hid hwbe
          clear hwbe
          go_wp2_with (at_range; refine wpl_range rfl _ 60 rfl 3 65 Tryd.underlyingKinds (wb + 1) 3 kEs rfl hm5 kEs_born ?_; intro w6 hI hB6; go_frame)
          rw [hsz5] at hI ⊢
          obtain ⟨rb, hrbe⟩ : ∃ rb, wb + 1 + 1 = rb := ⟨_, rfl⟩
          rw [hrbe] at hI ⊢
          have hrx : rb ≠ xb := by omega
          have hmx : wb + 1 ≠ xb := by omega
          have hwx : wb ≠ xb := by omega
          have hC6 : Chg (fun q => q = xb) w4 w6 := (Chg.ofBelow (by rw [HWB.out]; exact hB5)).trans (Chg.ofBelow hB6)
          have hwb6 := hwb.below hB6 hwb.lt
          have hxb6 : Blk w6 xb 32 sp0.cells := by
            have := hxb.below hB5 (by rw [← HWB.out]; exact hxb.lt)
            exact this.below hB6 this.lt
          clear hB5 hB6 hm5 hwb hsz5
          go_loopw [10] (fun s10 wq => ∃ (seen : Array Nat) (kd : Int), Iter wq rb (wb + 1) kEs seen ∧ Chg (fun q => q = xb) w4 wq ∧ Blk wq xb 32 ({ sp0 with k := kd } : Sp).cells ∧ Blk wq wb 50 [.int .i64 wd.k, .string ⟨wd.t.toArray⟩, .int .i64 wd.n, .int .i64 wd.at_] ∧
              Hid (kd = 0 ∨ kd = kindOf wd.t) ∧ Hid (∀ b, seen.contains b = true → (b : Int) + 1 = kindOf wd.t → kd = kindOf wd.t)) (fun _ wq => wq.rangeLeft (wb + 1) rb)
          case atStart => exact ⟨#[], 0, hI, hC6, hxb6, hwb6, hid (.inl rfl), hid (by intro b hb; simp at hb)⟩
          case round =>
            clear hI hC6 hwb6 hxb6 hxb
            obtain ⟨wk, hwk⟩ : ∃ wk : World, wk = wr := ⟨_, rfl⟩
            subst hwk
            obtain ⟨seen, kd, hI, hC6, hxq, hwq, HK1, HK2⟩ := hrel
            have hlf := hI.left
            go_wp2_with (at_next; refine wpl_next rfl _ rfl rb (wb + 1) kEs seen rfl hI kEs_nodup ?_ ?_)
            · intro h0
              have hkd : Hid (kd = kindOf wd.t) := by
                have hall := all_seen kEs seen (by rw [h0]; rfl)
                rcases kindOf_range wd.t with h | h
                · have := HK1.out; rw [h] at this ⊢; simpa [Hid] using this
                · rcases isK_iff.1 h with h | h | h
                  · exact HK2.out 0 (hall ⟨.int .i64 1, kv 1, 0⟩ (by simp [kEs])) (by rw [h]; rfl)
                  · exact HK2.out 1 (hall ⟨.int .i64 2, kv 2, 1⟩ (by simp [kEs])) (by rw [h]; rfl)
                  · exact HK2.out 2 (hall ⟨.int .i64 3, kv 3, 2⟩ (by simp [kEs])) (by rw [h]; rfl)
              have hCq := Chg.ofNew (S := fun q => q = tb) ((hC.mono (fun q _ h => .inl h)).trans (hC6.mono (fun q _ h => .inr (by rw [HXB.out, h]; exact Nat.le_refl _))))
              have hpq := hps.chg hCq hbx
              have hto : tb < xb := by have := hbx.hi; omega
              have htkq := htk4.chg hC6 (fun q hq => by intro h; omega)
              have HPS := hid hps
              clear HK1 HK2 hlf hI h0 hC6 htk4 hp4 hC hps
              have x0 := hxq.cell 0
              simp only [Sp.cells, List.getElem?_cons_zero] at x0
              have y3 := hwq.cell 3
              simp only [List.getElem?_cons_succ, List.getElem?_cons_zero] at y3
              by_cases hk0 : kindOf wd.t = 0
              · have hk00 := hkd.out
                rw [hk0] at hk00
                rw [hk00] at x0
                have HR := hid (HB.out _ _ (by rw [HE.out, if_pos hk0]; rfl))
                clear hk0 hk00 hkd hxq hwq
                go_wp2_with fail
                exact hpq.bad hbx HR.out rfl rfl rfl
              · have hK : isK kd = true := by rw [hkd.out]; exact (kindOf_range wd.t).resolve_left hk0
                have HE2 : Hid (oneP s.size k TS = judge k (restP s.size (offsK kd) { sp0 with k := kd } r)) := by
                  unfold Hid; rw [HE.out, if_neg hk0, hkd.out]
                have hkn : (kd == 0) = false := by rcases isK_iff.1 hK with h | h | h <;> rw [h] <;> rfl
                clear hk0 HE hkd y3 hwq
                have HKd := hid (fun w => kinds_is w)
                have hxr : xb < wk.heap.size := hxq.lt
                have x0a : ∀ o, (wk.alloc o).cell? ⟨xb, 0, none⟩ = some (.int .i64 kd) := fun o => (hxq.alloc o).cell 0
                have HLK := hid (look_no (w := (wk.alloc (.map kEs 3)).drew) kd (heap_alloc_new wk _))
                go_upto_region 1 with fail
                go_cut [59, 60, 61] from 54 to 61 (fun s59 s60 s61 wx => ∃ ao, s59 = .slice ao (offsK kd).length (offsK kd).length ∧ s60 = .int .i64 ((offsK kd).length : Nat) ∧ s61 = .int .i64 0 ∧ SlV wx ao ((offsK kd).map (fptr xb)) ∧ (∀ b off, ao = some ⟨b, off, none⟩ → xb < b) ∧ Below wk.heap.size wk wx)
                case first =>
                  clear hxq htkq hpq HPS hCq HE2 HB HO HM
                  have hBk : Below wk.heap.size wk (wk.alloc (.map kEs 3)).drew := (below_alloc wk _).drew
                  rcases isK_iff.1 hK with rfl | rfl | rfl
                  all_goals
                    have HL := HLK.out
                    simp only [kv] at HL
                  · have HN := hid (fun w => num1 xb w)
                    have hfl := fld1
                    refine wp_normal ?_
                    go_region_with (first
                      | (go_at_call 29; refine (HKd.out _).mono ?_; rintro e w' ⟨rfl, rfl⟩)
                      | (go_at_call 45; refine (HN.out _).mono ?_; rintro e w' ⟨v1, rfl, ⟨ao1, rfl, hsl1, hnew1⟩, hBn⟩))
                    all_goals
                      go_simp
                      go_wp2_with fail
                      go_meet
                      case rel => exact ⟨_, rfl, rfl, rfl, hsl1, fun b off hb => Nat.lt_of_lt_of_le hxr (Nat.le_trans (by simp) (hnew1 b off hb)), hBk.trans (hBn.mono (by simp))⟩
                  · have HN := hid (fun w => num3 xb w)
                    have hfl := fld2
                    refine wp_normal ?_
                    go_region_with (first
                      | (go_at_call 29; refine (HKd.out _).mono ?_; rintro e w' ⟨rfl, rfl⟩)
                      | (go_at_call 47; refine (HN.out _).mono ?_; rintro e w' ⟨v1, rfl, ⟨ao1, rfl, hsl1, hnew1⟩, hBn⟩))
                    all_goals
                      go_simp
                      go_wp2_with fail
                      go_meet
                      case rel => exact ⟨_, rfl, rfl, rfl, hsl1, fun b off hb => Nat.lt_of_lt_of_le hxr (Nat.le_trans (by simp) (hnew1 b off hb)), hBk.trans (hBn.mono (by simp))⟩
                  · have HN := hid (fun w => num5 xb w)
                    have hfl := fld3
                    refine wp_normal ?_
                    go_region_with (first
                      | (go_at_call 29; refine (HKd.out _).mono ?_; rintro e w' ⟨rfl, rfl⟩)
                      | (go_at_call 49; refine (HN.out _).mono ?_; rintro e w' ⟨v1, rfl, ⟨ao1, rfl, hsl1, hnew1⟩, hBn⟩))
                    all_goals
                      go_simp
                      go_wp2_with fail
                      go_meet
                      case rel => exact ⟨_, rfl, rfl, rfl, hsl1, fun b off hb => Nat.lt_of_lt_of_le hxr (Nat.le_trans (by simp) (hnew1 b off hb)), hBk.trans (hBn.mono (by simp))⟩
                case rest =>
                  clear x0 x0a HLK hkn HKd
                  obtain ⟨ao2, rfl, rfl, rfl, hsl, hnew, hB2⟩ := hcut
                  replace hxq := hxq.below hB2 hxq.lt
                  replace htkq := htkq.below hB2
                  replace hpq := hpq.chg (Chg.ofBelow hB2) hbx
                  replace hCq := hCq.trans (Chg.ofBelow (S := fun q => q = tb) hB2)
                  have hrl : r.length < f := by omega
                  have HOS := hid (rfl : offsK kd = offsK kd)
                  have hos12 : Hid (∀ o ∈ offsK kd, o = 1 ∨ o = 2) := by
                    rcases isK_iff.1 hK with h | h | h <;> rw [h] <;> simp [offsK, Hid]
                  have hol : (offsK kd).length ≤ 2 := by
                    rcases isK_iff.1 hK with h | h | h <;> rw [h] <;> simp [offsK]
                  clear hB2 hK HOS
                  generalize offsK kd = os at *
                  generalize hsp : ({ sp0 with k := kd } : Sp) = sp at *
                  clear hsp
                  go_wp2_with fail
                  go_loopw [61] (fun s61 wn => ∃ (i : Nat) (sp : Sp) (r : List Tok), s61 = .int .i64 i ∧ i ≤ os.length ∧ Blk wn xb 32 sp.cells ∧ TokSt wn tb r ∧ r.length < f ∧ Chg (fun q => q = tb) wo wn ∧ PS w wn sb ob eb ab nb (nb + 1) tb s v L ∧ SlV wn ao2 (os.map (fptr xb)) ∧
                      Hid (oneP s.size k TS = judge k (restP s.size (os.drop i) sp r))) (fun s61 _ => os.length - (intOf s61).toNat)
                  case atStart => exact ⟨0, sp, r, rfl, by omega, hxq, htkq, hrl, hCq, hpq, hsl, HE2⟩
                  case round =>
                    clear hxq htkq hpq hCq hsl HE2 hrl
                    obtain ⟨i, sp, r, rfl, hi, hxq, htkq, hrl, hCq, hpq, hsl, HE⟩ := hrel
                    have hcn := (hpq.next).cell 0
                    simp only [List.getElem?_cons_zero, nextV] at hcn
                    by_cases hil : i < os.length
                    · obtain ⟨o, ho⟩ : ∃ o, os[i]? = some o := ⟨_, List.getElem?_eq_getElem hil⟩
                      have ho12 := hid (hos12.out o (List.mem_of_getElem? ho))
                      obtain ⟨b, off, hao, hb, hcell⟩ := hsl.cell i (fptr xb o) (by rw [List.getElem?_map, ho]; rfl)
                      subst hao
                      unfold fptr at hcell
                      have hxb2 := hid (hnew b off rfl)
                      have hd : os.drop i = o :: os.drop (i + 1) := by
                        rw [List.drop_eq_getElem_cons hil]
                        have := List.getElem?_eq_getElem hil
                        rw [ho] at this
                        rw [← Option.some.inj this]
                      rw [hd] at HE
                      clear hd hb ho
                      cases hn2 : nx s.size 2 r with
                      | bad e n =>
                        have HE3 : Hid (oneP s.size k TS = .bad e n) := by unfold Hid; rw [HE.out, restP_bad hn2]; rfl
                        go_wp2_with fail
                        refine (nx_is 2 tb sb s r wr ⟨htkq, hpq.text, hbx.tk.1⟩ hs hn2).mono ?_
                        rintro en w8 ⟨rfl, hC8⟩
                        exact (hpq.chg hC8 hbx).bad hbx (HB.out _ _ HE3.out) rfl rfl rfl
                      | ok t2 r2 =>
                        have HE3 : Hid (oneP s.size k TS = judge k (restP s.size (os.drop (i + 1)) (sp.setF o t2.n) r2)) := by unfold Hid; rw [HE.out, restP_cons hn2]
                        go_wp2_with fail
                        refine (nx_is 2 tb sb s r wr ⟨htkq, hpq.text, hbx.tk.1⟩ hs hn2).mono ?_
                        rintro en w8 ⟨rfl, htk8, hC8⟩
                        have hx8 := hxq.chg hC8 hxt
                        have hsl8 := hsl.chg hC8 (fun b' off' e _ => by cases e; have := hxb2.out; omega)
                        have hc8 := hx8.cell o
                        have hf8 := hx8.free o
                        obtain ⟨y, hy⟩ : ∃ y, sp.cells[o]? = some y := by rcases ho12.out with rfl | rfl <;> exact ⟨_, rfl⟩
                        rw [hy] at hc8
                        have hC9 := Chg.ofNew (S := fun q => q = tb) ((((hCq.trans hC8).mono (fun q _ h => .inl h)).set (p := ⟨xb, o, none⟩) (.inr (by rw [HXB.out]; exact Nat.le_refl _)) (.int .i64 t2.n)))
                        have hr2 := nx_len hn2
                        clear hcn hn2 hy
                        have hfn := fld_tokN
                        unfold tokC
                        go_wp2_with fail
                        go_roundw
                        case rel =>
                          exact ⟨i + 1, sp.setF o t2.n, r2, by go_num, by omega, by rw [Sp.setF_cells _ _ _ ho12.out]; exact hx8.set o _, htk8.chg (S := fun q => q = xb) ((Chg.refl (fun q => q = xb) w8).set rfl _) (fun q hq h => by omega), by omega, hC9, HPS.out.chg hC9 hbx,
                            hsl8.chg (S := fun q => q = xb) ((Chg.refl (fun q => q = xb) w8).set rfl _) (fun b' off' e _ h => by cases e; have := hxb2.out; omega), HE3⟩
                        case measure => simp [intOf]; omega
                    · have hie : Hid (os.drop i = []) := List.drop_eq_nil_of_le (by omega)
                      replace HE : Hid (oneP s.size k TS = judge k (tailP s.size sp r)) := by unfold Hid; rw [HE.out, hie.out, restP_nil]
                      clear hie hsl hnew hos12
                      go_wp2_with fail
                      clear hi hil hcn
                      cases hm : mst s.size 1 wFrom r with
                      | bad e n =>
                        refine (must_is 1 wFrom nb tb sb s r _ ⟨htkq, hpq.text, hbx.tk.1⟩ hs hpq.next hbx.tk.2.2.2.2 hm).mono ?_
                        rintro en w8 ⟨rfl, hC8⟩
                        exact (hpq.chg hC8 hbx).bad hbx (HB.out _ _ (by rw [HE.out]; unfold tailP; rw [hm]; rfl)) rfl rfl rfl
                      | ok atail2 r1 =>
                        refine (must_is 1 wFrom nb tb sb s r _ ⟨htkq, hpq.text, hbx.tk.1⟩ hs hpq.next hbx.tk.2.2.2.2 hm).mono ?_
                        rintro en w8 ⟨rfl, ht1, hC8⟩
                        have hr2 := mst_len hm
                        have HE1 : Hid (oneP s.size k TS = judge k (tail2 s.size sp r1)) := by unfold Hid; rw [HE.out]; unfold tailP; rw [hm]
                        have hp1 := hpq.chg hC8 hbx
                        have hx1 := hxq.chg hC8 hxt
                        have hC1 := hCq.trans hC8
                        have hrl1 : r1.length < f := by omega
                        clear hm htkq hC8 HE hpq hxq hCq hrl hr2
                        have hcn := (hp1.next).cell 0
                        simp only [List.getElem?_cons_zero, nextV] at hcn
                        go_wp2_with fail
                        clear hcn
                        cases hn2 : nx s.size 2 r1 with
                        | bad e n =>
                          refine (nx_is 2 tb sb s r1 _ ⟨ht1, hp1.text, hbx.tk.1⟩ hs hn2).mono ?_
                          rintro en w8 ⟨rfl, hC8⟩
                          exact (hp1.chg hC8 hbx).bad hbx (HB.out _ _ (by rw [HE1.out]; unfold tail2; rw [hn2]; rfl)) rfl rfl rfl
                        | ok t2 r2 =>
                          refine (nx_is 2 tb sb s r1 _ ⟨ht1, hp1.text, hbx.tk.1⟩ hs hn2).mono ?_
                          rintro en w8 ⟨rfl, htk8, hC8⟩
                          have HE2 : Hid (oneP s.size k TS = judge k (tail3 s.size { sp with a := t2.n } r2)) := by unfold Hid; rw [HE1.out]; unfold tail2; rw [hn2]
                          have hr2 := nx_len hn2
                          have hrl2 : r2.length < f := by omega
                          clear hn2 hr2 hrl1 hp1 ht1 HE1
                          have hx8 := hx1.chg hC8 hxt
                          have hc8 := hx8.cell 3
                          have hf8 := hx8.free 3
                          simp only [Sp.cells, List.getElem?_cons_succ, List.getElem?_cons_zero] at hc8
                          have hC2 := Chg.ofNew (S := fun q => q = tb) ((((hC1.trans hC8).mono (fun q _ h => .inl h)).set (p := ⟨xb, 3, none⟩) (.inr (by rw [HXB.out]; exact Nat.le_refl _)) (.int .i64 t2.n)))
                          have hp2 := HPS.out.chg hC2 hbx
                          have ht2 := htk8.chg (S := fun q => q = xb) ((Chg.refl (fun q => q = xb) w8).set (p := ⟨xb, 3, none⟩) rfl (.int .i64 t2.n)) (fun q hq h => by omega)
                          have hx2 : Blk (w8.setCell ⟨xb, 3, none⟩ (.int .i64 t2.n)) xb 32 ({ sp with a := t2.n } : Sp).cells := hx8.set 3 _
                          clear hx1 hC1 hC8 htk8 hx8
                          have hfn := fld_tokN
                          unfold tokC
                          go_wp2_with fail
                          clear hc8 hf8 hfn
                          generalize w8.setCell ⟨xb, 3, none⟩ (.int .i64 t2.n) = wz2 at *
                          generalize hsp : ({ sp with a := t2.n } : Sp) = sp2 at *
                          clear hsp
                          cases hm : mst s.size 1 wUntil r2 with
                          | bad e n =>
                            refine (must_is 1 wUntil nb tb sb s r2 _ ⟨ht2, hp2.text, hbx.tk.1⟩ hs hp2.next hbx.tk.2.2.2.2 hm).mono ?_
                            rintro en w8 ⟨rfl, hC8⟩
                            exact (hp2.chg hC8 hbx).bad hbx (HB.out _ _ (by rw [HE2.out]; unfold tail3; rw [hm]; rfl)) rfl rfl rfl
                          | ok atail4 r3 =>
                            refine (must_is 1 wUntil nb tb sb s r2 _ ⟨ht2, hp2.text, hbx.tk.1⟩ hs hp2.next hbx.tk.2.2.2.2 hm).mono ?_
                            rintro en w8 ⟨rfl, ht3, hC8⟩
                            have hr2 := mst_len hm
                            have HE3 : Hid (oneP s.size k TS = judge k (tail4 s.size sp2 r3)) := by unfold Hid; rw [HE2.out]; unfold tail3; rw [hm]
                            have hp3 := hp2.chg hC8 hbx
                            have hx3 := hx2.chg hC8 hxt
                            have hC3 := hC2.trans hC8
                            have hrl3 : r3.length < f := by omega
                            clear hm ht2 hC8 HE2 hp2 hx2 hC2 hrl2 hr2
                            have hcn := (hp3.next).cell 0
                            simp only [List.getElem?_cons_zero, nextV] at hcn
                            go_wp2_with fail
                            clear hcn
                            cases hn2 : nx s.size 2 r3 with
                            | bad e n =>
                              refine (nx_is 2 tb sb s r3 _ ⟨ht3, hp3.text, hbx.tk.1⟩ hs hn2).mono ?_
                              rintro en w8 ⟨rfl, hC8⟩
                              exact (hp3.chg hC8 hbx).bad hbx (HB.out _ _ (by rw [HE3.out]; unfold tail4; rw [hn2]; rfl)) rfl rfl rfl
                            | ok t2 r4 =>
                              refine (nx_is 2 tb sb s r3 _ ⟨ht3, hp3.text, hbx.tk.1⟩ hs hn2).mono ?_
                              rintro en w8 ⟨rfl, htk8, hC8⟩
                              have HE4 : Hid (oneP s.size k TS = judge k (tail5 s.size { sp2 with b := t2.n } r4)) := by unfold Hid; rw [HE3.out]; unfold tail4; rw [hn2]
                              have hr2 := nx_len hn2
                              have hrl4 : r4.length < f := by omega
                              clear hn2 hr2 hrl3 hp3 ht3 HE3
                              have hx8 := hx3.chg hC8 hxt
                              have hc8 := hx8.cell 4
                              have hf8 := hx8.free 4
                              simp only [Sp.cells, List.getElem?_cons_succ, List.getElem?_cons_zero] at hc8
                              have hC4 := Chg.ofNew (S := fun q => q = tb) ((((hC3.trans hC8).mono (fun q _ h => .inl h)).set (p := ⟨xb, 4, none⟩) (.inr (by rw [HXB.out]; exact Nat.le_refl _)) (.int .i64 t2.n)))
                              have hp4 := HPS.out.chg hC4 hbx
                              have ht4 := htk8.chg (S := fun q => q = xb) ((Chg.refl (fun q => q = xb) w8).set (p := ⟨xb, 4, none⟩) rfl (.int .i64 t2.n)) (fun q hq h => by omega)
                              have hx4 : Blk (w8.setCell ⟨xb, 4, none⟩ (.int .i64 t2.n)) xb 32 ({ sp2 with b := t2.n } : Sp).cells := hx8.set 4 _
                              clear hx3 hC3 hC8 htk8 hx8
                              have hfn := fld_tokN
                              unfold tokC
                              go_wp2_with fail
                              clear hc8 hf8 hfn
                              generalize w8.setCell ⟨xb, 4, none⟩ (.int .i64 t2.n) = wz4 at *
                              generalize hsp : ({ sp2 with b := t2.n } : Sp) = sp4 at *
                              clear hsp
                              cases hm : mst s.size 4 [59] r4 with
                              | bad e n =>
                                refine (must_is 4 [59] nb tb sb s r4 _ ⟨ht4, hp4.text, hbx.tk.1⟩ hs hp4.next hbx.tk.2.2.2.2 hm).mono ?_
                                rintro en w8 ⟨rfl, hC8⟩
                                exact (hp4.chg hC8 hbx).bad hbx (HB.out _ _ (by rw [HE4.out]; unfold tail5; rw [hm]; rfl)) rfl rfl rfl
                              | ok ax r5 =>
                                refine (must_is 4 [59] nb tb sb s r4 _ ⟨ht4, hp4.text, hbx.tk.1⟩ hs hp4.next hbx.tk.2.2.2.2 hm).mono ?_
                                rintro en w8 ⟨rfl, ht5, hC8⟩
                                have hr2 := mst_len hm
                                have HE5 : Hid (oneP s.size k TS = judge k (.ok (sp4, ax) r5)) := by unfold Hid; rw [HE4.out]; unfold tail5; rw [hm]
                                have hp5 := hp4.chg hC8 hbx
                                have hx5 := hx4.chg hC8 hxt
                                have hC5 := hC4.trans hC8
                                have hrl5 : r5.length < f := by omega
                                clear hm ht4 hC8 HE4 hp4 hx4 hC4 hrl4 hr2
                                have HF := hid (fun w => formed_any sp4 w)
                                go_wp2_with (first | (refine wpList_load_row rfl 32 _ rfl xb rfl 32 _ (0, 0) _ hx5 Tryd.underlying32 rfl (by kernel_rfl) ?_))
                                refine (HF.out _).mono ?_
                                rintro en w10 ⟨rfl, hB10⟩
                                have hp10 := hp5.chg (Chg.ofBelow hB10) hbx
                                have hx10 := hx5.below hB10 hx5.lt
                                have ht10 := ht5.below hB10
                                have hC10 := hC5.trans (Chg.ofBelow (S := fun q => q = tb) hB10)
                                clear hp5 hx5 ht5 hC5 hB10 HF
                                cases hfm : formB sp4 with
                                | false =>
                                  go_wp2_with fail
                                  exact hp10.bad hbx (HB.out _ _ (by rw [HE5.out]; unfold judge; simp only [hfm]; rfl)) rfl rfl rfl
                                | true =>
                                  have ho := hp10.out
                                  have d1 := ho.cell 0
                                  have g1 := ho.free 0
                                  simp only [List.getElem?_cons_zero] at d1
                                  obtain ⟨aov, capv, hve⟩ : ∃ ao cap, v = .slice ao L.length cap := by
                                    rcases hp10.own.2 with ⟨e, h3⟩ | ⟨g, cap, cur, hv, hg, _⟩
                                    · exact ⟨none, 0, by rw [e, h3]⟩
                                    · exact ⟨_, cap, hv⟩
                                  subst hve
                                  have hL := hid hkL
                                  have hown := hp10.own
                                  rw [← hkL] at hown d1
                                  have HV := hid hkL
                                  have ho2 := ho
                                  rw [← hkL] at ho2
                                  clear hkL ho
                                  cases h200 : ((k : Int) == 200) with
                                  | true =>
                                    have hk2 : Hid (k = 200) := by simp at h200; unfold Hid; omega
                                    go_wp2_with fail
                                    exact hp10.bad hbx (HB.out _ _ (by rw [HE5.out]; unfold judge; simp only [hfm]; rw [if_neg (by simp), if_pos hk2.out])) rfl rfl rfl
                                  | false =>
                                    have hk2 : Hid (k ≠ 200) := by simp at h200; unfold Hid; omega
                                    have HO2 : Hid (oneP s.size k TS = .ok sp4 r5) := by unfold Hid; rw [HE5.out]; unfold judge; simp only [hfm]; rw [if_neg (by simp), if_neg hk2.out]
                                    have hkk : k + 1 ≤ 200 := by have := hk2.out; omega
                                    have HPL := hid (HO.out _ _ HO2.out)
                                    have HLT := hid (oneP_len HO2.out)
                                    clear HO2 hk2 hfm HE5 HO HB
                                    have hm : MineN 5 (nb + 1) w10 w10 32 (.slice aov k capv) k (spsCells L) := ⟨hown, Below.refl _ _, hp10.base⟩
                                    have hone : some ob ≠ (Value.slice aov k capv).ownBlock := fun e => by have := (hown.lt ob e.symm).1; have := hbx.hi; omega
                                    obtain ⟨qk, qq, qn, qa, qb⟩ := sp4
                                    simp only [Sp.cells] at hx10
                                    have hL1 : k + 1 ≤ maxLen := by unfold maxLen; omega
                                    have hL2 : (k + 1) * 40 ≤ 140737488355328 := by omega
                                    go_wp2_with (first
                                      | (refine wpList_load_row rfl 32 _ rfl xb rfl 32 _ (0, 0) _ hx10 Tryd.underlying32 rfl (by kernel_rfl) ?_)
                                      | (at_builtin; (refine wpl_appN rfl _ _ 22 rfl 32 _ 5 40 Tryd.underlying22 Tryd.infoSpell rfl (by decide) _ _ _ _ _ hm rfl #[.int .i64 qk, .int .i64 qq, .int .i64 qn, .int .i64 qa, .int .i64 qb] rfl (by simp [Value.oneCell']) rfl hL1 hL2 ?_); intro g1 cap1 w11 hm11 hg11 hBg hat11; have d11 := (ho2.grown hg11 hone).cell 0; have g11 := (ho2.grown hg11 hone).free 0; simp only [List.getElem?_cons_zero] at d11))
                                    have hC11 : Chg (fun q => q = ob ∨ (Value.slice aov k capv).ownBlock = some q) w10 (w11.setCell ⟨ob, 0, none⟩ (.slice (some ⟨g1, 0, none⟩) (k + 1) cap1)) := ((Chg.refl _ w10).grown hg11 (fun q e => .inr e)).set (.inl rfl) _
                                    have hno : ∀ q, q < nb + 1 → q ≠ ob → ¬ (q = ob ∨ (Value.slice aov k capv).ownBlock = some q) := fun q h1 h2 h3 => by
                                      rcases h3 with h3 | h3
                                      · exact h2 h3
                                      · have := (hown.lt q h3).1; omega
                                    obtain ⟨e0, he0⟩ := hp10.err
                                    obtain ⟨a0, ha0⟩ := hp10.at_
                                    have htk11 : TokSt (w11.setCell ⟨ob, 0, none⟩ (.slice (some ⟨g1, 0, none⟩) (k + 1) cap1)) tb r5 := by
                                      refine ht10.chgOut ho2 hC11 (fun q h => ?_) hbx.tk.2.1
                                      rcases h with h | h
                                      · exact .inl h
                                      · have := (hown.lt q h).1; have := hbx.hi; omega
                                    have hps11 : PS w (w11.setCell ⟨ob, 0, none⟩ (.slice (some ⟨g1, 0, none⟩) (k + 1) cap1)) sb ob eb ab nb (nb + 1) tb s (.slice (some ⟨g1, 0, none⟩) (k + 1) cap1) (L ++ [⟨qk, qq, qn, qa, qb⟩]) := by
                                      refine ⟨hp10.below.trans (hC11.toBelow hp10.below.size ?_), hp10.text.chg hC11 (hno _ hbx.hi.1 hbx.out.1), (ho2.grown hg11 hone).set 0 _, ⟨_, he0.chg hC11 (hno _ hbx.hi.2.2.1 hbx.out.2.1)⟩, ⟨_, ha0.chg hC11 (hno _ hbx.hi.2.2.2.1 hbx.out.2.2.1)⟩, hp10.next.chg hC11 (hno _ hbx.hi.2.2.2.2.2 hbx.out.2.2.2), ?_, ?_⟩
                                      · rintro q (rfl | h3)
                                        · exact hbx.lo.2.1
                                        · have := (hown.lt q h3).1; have := hbx.lo; have := hbx.hi; omega
                                      · have hl : (L ++ [(⟨qk, qq, qn, qa, qb⟩ : Sp)]).length = k + 1 := by rw [List.length_append, ← HV.out]; rfl
                                        rw [hl, spsCells_snoc]
                                        exact ownsRow_chgN (S := fun q => q = ob) hm11.own ((Chg.refl (fun q => q = ob) w11).set rfl _) (fun q hq h => by have := (hm11.own.lt q hq).1; have := hbx.hi; omega)
                                      · have := hC11.size; have := hp10.base; omega
                                    have HLT2 : Hid (tokLen (w11.setCell ⟨ob, 0, none⟩ (.slice (some ⟨g1, 0, none⟩) (k + 1) cap1)) tb < TS.length) := by unfold Hid; rw [htk11.len]; exact HLT.out
                                    have hLk : Hid (k + 1 = (L ++ [(⟨qk, qq, qn, qa, qb⟩ : Sp)]).length) := by unfold Hid; rw [List.length_append, ← HV.out]; rfl
                                    clear hC11 hno he0 ha0 hm11 hg11 hBg hat11 d11 g11 ho2 hown hone hm
                                    go_roundw
                                    case rel => exact ⟨f, k + 1, L ++ [⟨qk, qq, qn, qa, qb⟩], r5, .slice (some ⟨g1, 0, none⟩) (k + 1) cap1, hLk.out, hkk, hrl5, HPL, hps11, htk11⟩
                                    case measure => rw [HM]; exact HLT2.out
            · intro e w7 he hI7 hC7 hen
              replace he : e ∈ (leftOf kEs seen).toList := by simpa using he
              have hsh := left_shrinks kEs seen e he
              obtain ⟨hm, -⟩ := mem_left he
              have hwq7 := hwq.chg hC7 (by omega)
              have hxq7 := hxq.chg hC7 (by omega)
              have hC67 : Chg (fun q => q = xb) w4 w7 := Chg.ofNew (((hC6.mono (fun q _ h => .inl h)).trans (hC7.mono (fun q _ h => .inr (by rw [HWB.out, h]; omega)))))
              have p1 : ∀ o, (w7.alloc o).cell? ⟨wb, 1, none⟩ = some (.string ⟨wd.t.toArray⟩) := fun o => (hwq7.alloc o).cell 1
              have p2 : ∀ o, (w7.alloc o).cell? ⟨xb, 0, none⟩ = some (.int .i64 kd) := fun o => (hxq7.alloc o).cell 0
              have p3 : ∀ o, (w7.alloc o).frozen? ⟨xb, 0, none⟩ = false := fun o => (hxq7.alloc o).free 0
              have hlf7 := hI7.left
              simp only [kEs, List.mem_cons, List.not_mem_nil, or_false] at hm
              rcases hm with rfl | rfl | rfl
              · simp only [kv] at hen
                have HT1 := hid (fun h : wd.t = wCloud => (by rw [h]; rfl : kindOf wd.t = 1))
                have HT2 := hid (fun h : kindOf wd.t = 1 => kindOf_inv1 h)
                by_cases ht : wd.t = wCloud
                · have hkk := hid (HT1.out ht)
                  go_wp2_with fail
                  have hcc := ((Chg.refl (fun q => q = xb) w7).alloc (.cells #[.string (kw 1), .func (Fn.func (kA 1)) #[] #[], .func (Fn.func (kB 1)) #[] #[]] 65)).set (p := ⟨xb, 0, none⟩) rfl (.int .i64 1)
                  have hI8 := hI7.chg hcc hrx hmx
                  refine ⟨⟨_, 1, hI8, hC67.trans hcc, (hxq7.alloc _).set 0 _, (hwq7.alloc _).other _ hwx _, hid (.inr hkk.out.symm), hid (fun _ _ _ => hkk.out.symm)⟩, ?_⟩
                  have e8 := hI8.left
                  exact Nat.lt_of_le_of_lt (Nat.le_of_eq e8) (by rw [hlf]; exact hsh)
                · have hkk := hid (fun h => ht (HT2.out h))
                  have hb : (wCloud == wd.t) = false := beq_eq_false_iff_ne.2 (fun h => ht h.symm)
                  have hb2 : (wd.t == wCloud) = false := beq_eq_false_iff_ne.2 ht
                  unfold wCloud at hb hb2
                  go_wp2_with fail
                  have hcc := ((Chg.refl (fun q => q = xb) w7).alloc (.cells #[.string (kw 1), .func (Fn.func (kA 1)) #[] #[], .func (Fn.func (kB 1)) #[] #[]] 65))
                  have hI8 := hI7.chg hcc hrx hmx
                  refine ⟨⟨_, kd, hI8, hC67.trans hcc, hxq7.alloc _, hwq7.alloc _, HK1, hid (fun b hb3 hb4 => ?_)⟩, ?_⟩
                  · rw [Array.contains_push] at hb3
                    simp only [Bool.or_eq_true, beq_iff_eq] at hb3
                    rcases hb3 with hb3 | hb3
                    · exact HK2.out b hb3 hb4
                    · exact absurd (by rw [← hb4, hb3]; rfl) hkk.out
                  · have e8 := hI8.left
                    exact Nat.lt_of_le_of_lt (Nat.le_of_eq e8) (by rw [hlf]; exact hsh)
              · simp only [kv] at hen
                have HT1 := hid (fun h : wd.t = wSeeing => (by rw [h]; rfl : kindOf wd.t = 2))
                have HT2 := hid (fun h : kindOf wd.t = 2 => kindOf_inv2 h)
                by_cases ht : wd.t = wSeeing
                · have hkk := hid (HT1.out ht)
                  go_wp2_with fail
                  have hcc := ((Chg.refl (fun q => q = xb) w7).alloc (.cells #[.string (kw 2), .func (Fn.func (kA 2)) #[] #[], .func (Fn.func (kB 2)) #[] #[]] 65)).set (p := ⟨xb, 0, none⟩) rfl (.int .i64 2)
                  have hI8 := hI7.chg hcc hrx hmx
                  refine ⟨⟨_, 2, hI8, hC67.trans hcc, (hxq7.alloc _).set 0 _, (hwq7.alloc _).other _ hwx _, hid (.inr hkk.out.symm), hid (fun _ _ _ => hkk.out.symm)⟩, ?_⟩
                  have e8 := hI8.left
                  exact Nat.lt_of_le_of_lt (Nat.le_of_eq e8) (by rw [hlf]; exact hsh)
                · have hkk := hid (fun h => ht (HT2.out h))
                  have hb : (wSeeing == wd.t) = false := beq_eq_false_iff_ne.2 (fun h => ht h.symm)
                  have hb2 : (wd.t == wSeeing) = false := beq_eq_false_iff_ne.2 ht
                  unfold wSeeing at hb hb2
                  go_wp2_with fail
                  have hcc := ((Chg.refl (fun q => q = xb) w7).alloc (.cells #[.string (kw 2), .func (Fn.func (kA 2)) #[] #[], .func (Fn.func (kB 2)) #[] #[]] 65))
                  have hI8 := hI7.chg hcc hrx hmx
                  refine ⟨⟨_, kd, hI8, hC67.trans hcc, hxq7.alloc _, hwq7.alloc _, HK1, hid (fun b hb3 hb4 => ?_)⟩, ?_⟩
                  · rw [Array.contains_push] at hb3
                    simp only [Bool.or_eq_true, beq_iff_eq] at hb3
                    rcases hb3 with hb3 | hb3
                    · exact HK2.out b hb3 hb4
                    · exact absurd (by rw [← hb4, hb3]; rfl) hkk.out
                  · have e8 := hI8.left
                    exact Nat.lt_of_le_of_lt (Nat.le_of_eq e8) (by rw [hlf]; exact hsh)
              · simp only [kv] at hen
                have HT1 := hid (fun h : wd.t = wClosed => (by rw [h]; rfl : kindOf wd.t = 3))
                have HT2 := hid (fun h : kindOf wd.t = 3 => kindOf_inv3 h)
                by_cases ht : wd.t = wClosed
                · have hkk := hid (HT1.out ht)
                  go_wp2_with fail
                  have hcc := ((Chg.refl (fun q => q = xb) w7).alloc (.cells #[.string (kw 3), .func (Fn.func (kA 3)) #[] #[], .func (Fn.func (kB 3)) #[] #[]] 65)).set (p := ⟨xb, 0, none⟩) rfl (.int .i64 3)
                  have hI8 := hI7.chg hcc hrx hmx
                  refine ⟨⟨_, 3, hI8, hC67.trans hcc, (hxq7.alloc _).set 0 _, (hwq7.alloc _).other _ hwx _, hid (.inr hkk.out.symm), hid (fun _ _ _ => hkk.out.symm)⟩, ?_⟩
                  have e8 := hI8.left
                  exact Nat.lt_of_le_of_lt (Nat.le_of_eq e8) (by rw [hlf]; exact hsh)
                · have hkk := hid (fun h => ht (HT2.out h))
                  have hb : (wClosed == wd.t) = false := beq_eq_false_iff_ne.2 (fun h => ht h.symm)
                  have hb2 : (wd.t == wClosed) = false := beq_eq_false_iff_ne.2 ht
                  unfold wClosed at hb hb2
                  go_wp2_with fail
                  have hcc := ((Chg.refl (fun q => q = xb) w7).alloc (.cells #[.string (kw 3), .func (Fn.func (kA 3)) #[] #[], .func (Fn.func (kB 3)) #[] #[]] 65))
                  have hI8 := hI7.chg hcc hrx hmx
                  refine ⟨⟨_, kd, hI8, hC67.trans hcc, hxq7.alloc _, hwq7.alloc _, HK1, hid (fun b hb3 hb4 => ?_)⟩, ?_⟩
                  · rw [Array.contains_push] at hb3
                    simp only [Bool.or_eq_true, beq_iff_eq] at hb3
                    rcases hb3 with hb3 | hb3
                    · exact HK2.out b hb3 hb4
                    · exact absurd (by rw [← hb4, hb3]; rfl) hkk.out
                  · have e8 := hI8.left
                    exact Nat.lt_of_le_of_lt (Nat.le_of_eq e8) (by rw [hlf]; exact hsh)
end Go.Proofs.YtbkheiilcfhfpaaDoor
