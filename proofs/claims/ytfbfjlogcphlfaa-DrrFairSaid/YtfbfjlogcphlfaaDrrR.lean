/- DrrFair. -/
import Derived.Test.YtfbfjlogcphlfaaDrrL
import Derived.Test.YtfbfjlogcphlfaaDrrQ
import Derived.Deep.CutBlock
import Derived.Deep.QuietTactic
import Derived.BigQuiet
set_option linter.unusedSimpArgs false
set_option linter.unusedVariables false
namespace Go.Proofs.Ytfbfjlogcphlfaa
open Go.RowKit

def tCells16 (ta : Nat → Int) : Array Value := ((List.range 58).map fun i => Value.int .u16 (ta i)).toArray
theorem tCells16_at (ta : Nat → Int) (i : Nat) (h : i < 58) : (tCells16 ta)[i]? = some (.int .u16 (ta i)) := by simp [tCells16, h]

theorem came_tables16 {w : World} {v : Value} (h : Came Try.prog w 47 v) : ∃ ta : Nat → Int, v = .agg (tCells16 ta) ∧ ∀ i, 0 ≤ ta i ∧ ta i < 65536 := by
  obtain ⟨cs, rfl, ht⟩ := h.array Try.underlying47
  obtain ⟨hlen, hf⟩ := ht.array Try.underlying47
  rw [show Try.prog.cellsOf 47 = 58 by kernel_rfl] at hlen
  rw [show Try.prog.cellsOf 46 = 29 by kernel_rfl] at hf
  have hall : ∀ i, i < 58 → ∃ x : Int, cs.toList[i]? = some (.int .u16 x) ∧ 0 ≤ x ∧ x < 65536 := by
    intro i hi
    have h1 := hf (i / 29) (by omega)
    obtain ⟨_, hg⟩ := h1.array Try.underlying46
    rw [show Try.prog.cellsOf 45 = 1 by kernel_rfl] at hg
    obtain ⟨x, hx, hwf⟩ := (hg (i % 29) (by omega)).int Try.underlying45
    refine ⟨x, ?_, ?_⟩
    · have h3 := congrArg (fun l : List Value => l[0]?) hx
      simp only [List.getElem?_take, List.getElem?_drop, List.getElem?_cons_zero] at h3
      rw [if_pos (by omega), if_pos (by omega)] at h3
      rw [← h3]
      congr 1
      omega
    · simp [Lit.wf, IntKind.min, IntKind.max, IntKind.signed, IntKind.bits] at hwf
      omega
  refine ⟨fun i => match cs.toList[i]? with | some (.int _ x) => x | _ => 0, ?_, ?_⟩
  · congr 1
    apply Array.ext'
    apply List.ext_getElem?
    intro i
    by_cases hi : i < 58
    · obtain ⟨x, hx, _⟩ := hall i hi
      simp only [tCells16]
      rw [List.getElem?_map, List.getElem?_range hi]
      simp only [Option.map_some, hx]
    · rw [List.getElem?_eq_none (by omega)]
      simp only [tCells16]
      rw [List.getElem?_eq_none (by simp; omega)]
  · intro i
    by_cases hi : i < 58
    · obtain ⟨x, hx, h1, h2⟩ := hall i hi
      simp only [hx]
      exact ⟨h1, h2⟩
    · simp only [show cs.toList[i]? = none from List.getElem?_eq_none (by omega)]
      omega

/-- A table that is filled up to m. -/
def upTo (c : Nat → Int) (m : Nat) : Nat → Int := fun j => if 1 ≤ j ∧ j < m then c j else 0
theorem upTo_next (c : Nat → Int) (m : Nat) (h : 1 ≤ m) : upd (upTo c m) m (c m) = upTo c (m + 1) := by
  funext j
  unfold upd upTo
  by_cases hj : j = m
  · subst hj; rw [if_pos rfl, if_pos (by omega)]
  · rw [if_neg hj]
    by_cases h2 : 1 ≤ j ∧ j < m
    · rw [if_pos h2, if_pos (by omega)]
    · rw [if_neg h2, if_neg (by omega)]
theorem upTo_in (c : Nat → Int) (j : Nat) (h1 : 1 ≤ j) (h2 : j ≤ 28) : upTo c 29 j = c j := by unfold upTo; rw [if_pos (by omega)]
/-- The dearest of the wanted ones below m. -/
def dearOf (x : Int) (c : Nat → Int) : Nat → Int
  | 0 => 0
  | m + 1 => if 1 ≤ m ∧ bit x m = true then max (dearOf x c m) (c m) else dearOf x c m
theorem dearOf_bd (x : Int) (c : Nat → Int) (hc : ∀ j, c j ≤ 40000) (m : Nat) : 0 ≤ dearOf x c m ∧ dearOf x c m ≤ 40000 := by
  induction m with
  | zero => simp [dearOf]
  | succ m ih =>
    have := hc m
    simp only [dearOf]
    split <;> omega
theorem dearOf_le (x : Int) (c : Nat → Int) (m j : Nat) (h1 : 1 ≤ j) (h2 : j < m) (hb : bit x j = true) : c j ≤ dearOf x c m := by
  induction m with
  | zero => omega
  | succ m ih =>
    simp only [dearOf]
    by_cases hj : j = m
    · subst hj; rw [if_pos ⟨h1, hb⟩]; omega
    · have := ih (by omega)
      split <;> omega
theorem dearOf_hit (x : Int) (c : Nat → Int) (m : Nat) (h1 : 1 ≤ m) (hb : bit x m = true) : dearOf x c (m + 1) = max (dearOf x c m) (c m) := by simp only [dearOf]; rw [if_pos ⟨h1, hb⟩]
theorem dearOf_miss (x : Int) (c : Nat → Int) (m : Nat) (hb : bit x m = false) : dearOf x c (m + 1) = dearOf x c m := by simp [dearOf, hb]
theorem mbits_get (x : Int) (k : Nat) (h : k < (mbits x 29).length) : ∃ j : Nat, 1 ≤ j ∧ j ≤ 28 ∧ bit x j = true ∧ (mbits x 29)[k]? = some (j : Int) := by
  have hy : (mbits x 29)[k] ∈ (List.range 29).filterMap fun j => if 1 ≤ j ∧ bit x j = true then some (j : Int) else none := List.getElem_mem h
  obtain ⟨i, hi, he⟩ := List.mem_filterMap.1 hy
  split at he
  · rename_i hc
    refine ⟨i, hc.1, by simp at hi; omega, hc.2, ?_⟩
    rw [List.getElem?_eq_getElem h]
    exact (congrArg some (Option.some.inj he)).symm
  · cases he

theorem own_far {w : World} {base : Nat} {e : TypeId} {size : Nat} {v : Value} {n : Nat} {xs : List Value} (h : w.ownsRow base e size v n xs) {p : Addr} (hp : p.block < base) (u : Value) : (w.setCell p u).ownsRow base e size v n xs :=
  h.kept (row := some p.block) ⟨rfl, rfl, rfl, by simp [World.setCell], fun k _ hk => Below.heap_setCell _ _ _ _ (by rintro rfl; exact hk rfl)⟩ (by
    cases hv : v.ownBlock with
    | none => exact .inl rfl
    | some k =>
      have := (h.lt k hv).1
      exact .inr (by rintro ⟨⟩; omega))

attribute [local go_sem] ite_max

set_option maxRecDepth 100000 in
set_option maxHeartbeats 4000000 in
theorem DrrFair_walk' (x : Int) (hx : 0 ≤ x ∧ x < 4294967296) (ta : Nat → Int) (hta : ∀ i, 0 ≤ ta i ∧ ta i < 65536) (qu : Int) (hqu : 0 ≤ qu ∧ qu < 65536) (w : World) :
    Calls Try.prog 5 #[.int .u32 x, .agg (tCells16 ta), .int .u16 qu] w fun e w' => e = .returned (.bool true) ∧ Below w.heap.size w w' := by
  have htc := tCells16_at ta
  generalize hcs : tCells16 ta = cs at *
  clear hcs
  go_enter Try.func5, Try.ntmps5
  go_wp2_with fail
  refine (works_any _).mono ?_
  rintro e w2 ⟨rfl, hb2⟩
  have hg4 : Blk w2 w.heap.size 47 cs := (Blk.new w _ _).below hb2 (by simp)
  have hw2 : Below w.heap.size w w2 := ((Below.refl _ w).alloc (Nat.le_refl _) _).trans (hb2.mono (by simp))
  have HH := Lib.hid (And.intro hw2 hg4)
  clear hw2 hb2 hg4
  go_wp2_with fail
  have hq : 1000 ≤ 1000 + qu ∧ 1000 + qu ≤ 1000000 := by omega
  have hq0 : 1000 + qu ≤ 66535 := by omega
  generalize 1000 + qu = q at *
  refine (New_yes _ _ hq).mono ?_
  rintro e w3 ⟨rfl, hb4, hx1⟩
  obtain ⟨hq1, hq2⟩ := hq
  have hb3 : Below w.heap.size w w3 := HH.out.1.trans (hb4.mono HH.out.1.size)
  have k4 := HH.out.2.below hb4 HH.out.2.lt
  have hbd : w2.heap.size < w3.heap.size := hx1.lt
  generalize w2.heap.size = bd0 at *
  have HB := Lib.hid (And.intro hb3 (And.intro k4 hx1))
  clear hb3 k4 hb4 hx1 HH
  clear w2
  go_wp2_with fail
  generalize hW0 : World.alloc _ _ = W0
  have hb0 : Below w3.heap.size w3 W0 := by rw [← hW0]; exact ((Below.refl _ _).alloc (Nat.le_refl _) _).alloc (by simp) _
  have y9 : Blk W0 w3.heap.size 30 (iCells fun _ => 0) := by rw [← hW0]; exact (Blk.new _ _ _).alloc _
  have y10 : Blk W0 (w3.heap.size + 1) 30 (iCells fun _ => 0) := by rw [← hW0]; exact (Blk.new (w3.alloc _) _ _).same_g (by simp)
  clear hW0
  have hS0 : w3.heap.size + 1 < W0.heap.size := y10.lt
  generalize hct : (fun j => 1 + ta j % 40000) = ct
  generalize hwt : (fun j => 1 + ta (29 + j) % 8) = wt
  have hctv : ∀ j, ct j = 1 + ta j % 40000 := fun j => by rw [← hct]
  have hwtv : ∀ j, wt j = 1 + ta (29 + j) % 8 := fun j => by rw [← hwt]
  clear hct hwt
  have hcb : ∀ j, 1 ≤ ct j ∧ ct j ≤ 40000 := fun j => by have := hta j; rw [hctv]; omega
  have hwb : ∀ j, 1 ≤ wt j ∧ wt j ≤ 8 := fun j => by have := hta (29 + j); rw [hwtv]; omega
  have hwle : w.heap.size ≤ w3.heap.size := HB.out.1.size
  have HB9 := Lib.hid hb0.size
  generalize hb9 : w3.heap.size = b9 at *
  have hb9' : w3.heap.size ≤ b9 := by omega
  clear hb9
  obtain ⟨B, hBB⟩ : ∃ B, B = W0.heap.size := ⟨_, rfl⟩
  have HC := Lib.hid (And.intro hctv (And.intro hwtv (And.intro hcb hwb)))
  have HT := Lib.hid (And.intro hta htc)
  have HY := Lib.hid (And.intro hb0 (And.intro y9 y10))
  have hBW : B ≤ W0.heap.size := by omega
  have hB9 : b9 + 1 < B := by omega
  clear hctv hwtv hcb hwb hta htc y9 y10 hb0 hS0 hBB
  go_loopw [11, 12, 13] (fun v dr i wr => ∃ m : Nat, 1 ≤ m ∧ m ≤ 29 ∧ i = .int .i64 m ∧ dr = .int .i64 (dearOf x ct m) ∧ wr.ownsRow B 3 1 v (mbits x m).length ((mbits x m).map (Value.int .i64)) ∧
      Below b9 w3 wr ∧ Blk wr b9 30 (iCells (upTo ct m)) ∧ Blk wr (b9 + 1) 30 (iCells (upTo wt m)) ∧ B ≤ wr.heap.size) (fun _ _ i _ => 29 - (intOf i).toNat)
  case atStart =>
    refine ⟨1, by omega, by omega, rfl, rfl, World.ownsRow_nil _ _ _ _, HY.out.1, HY.out.2.1.same ?_, HY.out.2.2.same ?_, hBW⟩
    · congr 1; funext j; unfold upTo; rw [if_neg (by omega)]
    · congr 1; funext j; unfold upTo; rw [if_neg (by omega)]
  case round =>
    obtain ⟨m, hm1, hm2, rfl, rfl, hown, hbr, x9, x10, hsz⟩ := hrel
    by_cases hm28 : m ≤ 28
    · have k4 := HB.out.2.1.below hbr (by have := HB.out.2.1.lt; omega)
      have c4a := (k4.cell m).trans (HT.out.2 m (by omega))
      have c4b := (k4.cell (29 + m)).trans (HT.out.2 (29 + m) (by omega))
      have hta1 := HT.out.1 m
      have hta2 := HT.out.1 (29 + m)
      have x9c := (x9.cell m).trans (iCells_at _ _ (by omega))
      have x10c := (x10.cell m).trans (iCells_at _ _ (by omega))
      have f9 := x9.frozen m
      have f10 := x10.frozen m
      have hdb := dearOf_bd x ct (fun j => (HC.out.2.2.1 j).2) m
      have h29 : (m : Int) < 29 := by omega
      have hml := mbits_len x m
      have HR := Lib.hid (And.intro hown (And.intro hbr (And.intro x9 x10)))
      clear hown hbr x9 x10 k4
      obtain ⟨W1, hW1⟩ : ∃ W1, W1 = (wr.setCell ⟨b9, m, none⟩ (.int .i64 (1 + ta m % 40000))).setCell ⟨b9 + 1, m, none⟩ (.int .i64 (1 + ta (29 + m) % 8)) := ⟨_, rfl⟩
      have o1 := own_far (own_far HR.out.1 (p := ⟨b9, m, none⟩) (by simp; omega) (.int .i64 (1 + ta m % 40000))) (p := ⟨b9 + 1, m, none⟩) (by simp; omega) (.int .i64 (1 + ta (29 + m) % 8))
      rw [← hW1] at o1
      have o2 : Below b9 w3 W1 := by rw [hW1]; exact (HR.out.2.1.setCell (p := ⟨b9, m, none⟩) (by simp) _).setCell (p := ⟨b9 + 1, m, none⟩) (by simp) _
      have o3 : Blk W1 b9 30 (iCells (upTo ct (m + 1))) := by
        rw [hW1, ← upTo_next ct m hm1, HC.out.1 m, ← iCells_set _ _ _ (by omega)]
        exact (HR.out.2.2.1.set_ m _).far (p := ⟨b9 + 1, m, none⟩) (by simp) _
      have o4 : Blk W1 (b9 + 1) 30 (iCells (upTo wt (m + 1))) := by
        rw [hW1, ← upTo_next wt m hm1, HC.out.2.1 m, ← iCells_set _ _ _ (by omega)]
        exact (HR.out.2.2.2.far (p := ⟨b9, m, none⟩) (by simp) _).set_ m _
      have o5 : B ≤ W1.heap.size := by rw [hW1]; simpa [World.setCell] using hsz
      have HO := Lib.hid (And.intro o1 (And.intro o2 (And.intro o3 (And.intro o4 (And.intro o5 hW1)))))
      clear o1 o2 o3 o4 o5 hW1
      cases hb : bit x m with
      | true =>
        have hbt : (Go.bits BinOp.and IntKind.u32 (x / 2 ^ m) 1 == 1) = true := hb
        have HBT := Lib.hid hb
        clear hb
        obtain ⟨i0, hi, hz0, hz1, hz2⟩ := info_parts int_info
        obtain ⟨hown, _, o3, _, _, hW1⟩ := HO.out
        have hltk := HR.out.1.lt
        rw [hW1] at hown o3
        have HW1 := Lib.hid (And.intro hW1 (And.intro o3 hltk))
        clear hW1 hltk o3
        go_wp2_with (first
          | (at_builtin; refine wpList_append_own _ rfl (.tmp 57) (.tmp 59) 31 rfl B 3 i0 (.int .i64 0) 1 8 Try.underlying31 hi hz0 hz1 hz2 rfl (by decide) _ _ _ rfl (hown.alloc _) ⟨wr.heap.size, 0, none⟩ 1 1 [.int .i64 m] rfl rfl (fun j u hj => by match j, hj with | 0, hj => (simp at hj; subst hj; exact ((Blk.new _ _ _).same_g (by simp)).cell 0)) (fun u hu => by simp at hu; subst hu; rfl) (by unfold maxLen; omega) (by omega) (by simp; omega) ?_; intro v' w1 hown1 hgrow _; have hc9 := hgrow.cell (a := ⟨b9, m, none⟩) (v := .int .i64 (ct m)) (((HW1.out.2.1.alloc _).cell m).trans ((iCells_at _ _ (by omega)).trans (by unfold upTo; rw [if_pos (by omega)]))) (fun h => by have := HW1.out.2.2 _ h.symm; simp at this; omega)))
        go_roundw
        case rel =>
          refine ⟨m + 1, by omega, by omega, by go_num, by rw [dearOf_hit x ct m hm1 HBT.out], ?_⟩
          rw [mbits_hit x m hm1 HBT.out, List.length_append, List.map_append]
          obtain ⟨o1, o2, o3, o4, o5, hW1⟩ := HO.out
          rw [← hW1] at hgrow
          have hlt := HW1.out.2.2
          have bW1 : Below B W1 w1 := ((Below.refl B W1).alloc o5 _).grown hgrow (by simp; omega) (fun k hk => (hlt k hk).1)
          exact ⟨hown1, o2.trans (bW1.mono (by omega)), o3.below bW1 (by omega), o4.below bW1 (by omega), Nat.le_trans o5 bW1.size⟩
        case measure => simp [intOf]; omega
      | false =>
        have hbt : (Go.bits BinOp.and IntKind.u32 (x / 2 ^ m) 1 == 1) = false := hb
        have HBT := Lib.hid hb
        clear hb
        go_wp2_with fail
        go_roundw
        case rel =>
          refine ⟨m + 1, by omega, by omega, by go_num, by rw [dearOf_miss x ct m HBT.out], ?_⟩
          rw [mbits_miss x m HBT.out]
          obtain ⟨o1, o2, o3, o4, o5, rfl⟩ := HO.out
          exact ⟨o1, o2, o3, o4, o5⟩
        case measure => simp [intOf]; omega
    · obtain rfl : m = 29 := by omega
      have hml := mbits_len x 29
      obtain ⟨A', c', rfl, hnc', hRw⟩ := rd_own hown
      by_cases hnil : mbits x 29 = []
      · have hl0 : ((mbits x 29).length : Int) = 0 := by rw [hnil]; rfl
        have hl0' : (((mbits x 29).length : Int) == 0) = true := by rw [hl0]; rfl
        have HR := Lib.hid (And.intro hbr hl0)
        clear hbr hown hRw x9 x10 hnil hl0
        go_wp2_with fail
        go_ret
        exact ⟨rfl, HB.out.1.trans (HR.out.1.mono (by omega))⟩
      · have hl0' : (((mbits x 29).length : Int) == 0) = false := by
          have : (mbits x 29).length ≠ 0 := fun h => hnil (List.eq_nil_of_length_eq_zero h)
          simp; omega
        have hnp : 0 < (mbits x 29).length := List.length_pos_iff.2 hnil
        have HM := Lib.hid (And.intro hown (And.intro hbr (And.intro x9 (And.intro x10 (And.intro hRw hnil)))))
        generalize hnl : (mbits x 29).length = nl at *
        have hdb := dearOf_bd x ct (fun j => (HC.out.2.2.1 j).2) 29
        generalize hdear : dearOf x ct 29 = dear at *
        have HN := Lib.hid (And.intro hnl hdear)
        clear hbr hown hRw x9 x10 hnil hnl hdear
        obtain ⟨wo, rfl⟩ : ∃ wo, wo = wr := ⟨wr, rfl⟩
        go_wp2_with fail
        generalize hW4 : World.alloc _ _ = W4
        obtain ⟨bs, hbs⟩ : ∃ bs, bs = wo.heap.size := ⟨_, rfl⟩
        have hb4 : Below bs wo W4 := by rw [← hW4, hbs]; exact (Below.refl _ _).alloc (Nat.le_refl _) _
        have ys : Blk W4 bs 30 (iCells fun _ => 0) := by rw [← hW4, hbs]; exact Blk.new _ _ _
        have xd : Blk W4 bd0 52 (dCells q (fun _ => 0) 1 false) := (HB.out.2.2.below HM.out.2.1 hbd).below hb4 (by omega)
        rw [← hbs]
        have hbsB : B ≤ bs := by omega
        have HBS := Lib.hid hbs
        clear hW4 hbs
        generalize hcost : upTo ct 29 = cost at *
        generalize hweight : upTo wt 29 = weight at *
        have hcb : ∀ j, 1 ≤ j → j ≤ 28 → 1 ≤ cost j ∧ cost j ≤ 40000 := fun j h1 h2 => by rw [← hcost, upTo_in _ _ h1 h2]; exact HC.out.2.2.1 j
        have hwb : ∀ j, 1 ≤ j → j ≤ 28 → 1 ≤ weight j ∧ weight j ≤ 8 := fun j h1 h2 => by rw [← hweight, upTo_in _ _ h1 h2]; exact HC.out.2.2.2 j
        have hdl : ∀ j, 1 ≤ j → j ≤ 28 → wants (mbits x 29) j = true → cost j ≤ dear := fun j h1 h2 h3 => by
          rw [← hcost, upTo_in _ _ h1 h2, ← HN.out.2]
          refine dearOf_le x ct 29 j h1 (by omega) ?_
          rw [← mbits_any x j ⟨h1, h2⟩]
          exact (modesOf_any (mbits x 29) j ⟨h1, h2⟩).symm.trans h3
        have HW := Lib.hid (And.intro hcb (And.intro hwb hdl))
        have hst : Inv q (wants (mbits x 29)) cost weight (fun _ => 0) (fun _ => 0) 1 false := Inv.start hcb
        clear hcost hweight hcb hwb hdl
        go_loopw [8, 15] (fun d i wr => ∃ (k bd : Nat) (df : Nat → Int) (pt : Nat) (fed : Bool) (s : Nat → Int), k ≤ 400 ∧ i = .int .i64 k ∧ d = .pointer (some ⟨bd, 0, none⟩) ∧ bd ≠ bs ∧ Below bs wo wr ∧
            Blk wr bs 30 (iCells s) ∧ Blk wr bd 52 (dCells q df pt fed) ∧ Dok df ∧ (1 ≤ pt ∧ pt ≤ 28) ∧ Inv q (wants (mbits x 29)) cost weight s df pt fed ∧ ∀ j, 0 ≤ s j ∧ s j ≤ 40000 * k)
          (fun _ i _ => 400 - (intOf i).toNat)
        case atStart => exact ⟨0, bd0, _, _, _, _, by omega, rfl, rfl, by omega, hb4, ys, xd, fun m => by simp, by omega, hst, fun j => by simp⟩
        case round =>
          clear hb4 ys xd hst
          obtain ⟨k, bd, df, pt, fed, s, hk, rfl, rfl, hbd, hbr, xs, xd, hdf, hpt, hinv, hsb⟩ := hrel
          by_cases hlt : k < 400
          · have y9 := HM.out.2.2.1.below hbr (by omega)
            have y10 := HM.out.2.2.2.1.below hbr (by omega)
            have hk400 : decide ((k : Int) < 400) = true := by simp; omega
            have hRw : Rd wr wr.heap.size A' ((mbits x 29).map (Value.int .i64)) := ((HM.out.2.2.2.2.1.more (B' := bs) (by have := HBS.out; omega)).below hbr).more (Nat.le_of_lt xs.lt)
            have hbsl := xs.lt
            have hna := next_any bd wr q df pt fed hpt ⟨hq1, hq2⟩ hdf xd A' nl c' (mbits x 29) HN.out.1 (by omega) hRw cost weight _ _ (of_fn _) (of_fn _)
            have HA := Lib.hid (And.intro hna (And.intro hbr (And.intro xs (And.intro hinv (And.intro hsb (And.intro y9 y10))))))
            have HY9 := Lib.hid y9
            have HY10 := Lib.hid y10
            clear hna hbr xs xd hdf hinv hsb hRw y9 y10
            go_wp2_with (first
              | (refine wpList_load_row rfl 30 (.tmp 9) rfl _ rfl 30 (iCells cost) (0, 0) _ HY9.out Try.underlying30 rfl (by rw [iCells_size]; kernel_rfl) ?_)
              | (refine wpList_load_row rfl 30 (.tmp 10) rfl _ rfl 30 (iCells weight) (0, 0) _ HY10.out Try.underlying30 rfl (by rw [iCells_size]; kernel_rfl) ?_))
            refine HA.out.1.mono ?_
            rintro e w6 ⟨hb6, hor⟩
            obtain ⟨_, hbr, xs, hinv, hsb, y9, y10⟩ := HA.out
            clear HA HY9 HY10
            rcases hor with ⟨hnil, rfl⟩ | ⟨hne, bx, df1, pt1, fed1, hN1, hD1, hP1, rfl, hle1, hx1⟩
            · exact absurd ((mbits_nil x).2 hnil) HM.out.2.2.2.2.2
            obtain ⟨hw1, _, hinv1⟩ := hN1.fair (by omega) HW.out.1 HW.out.2.1 hpt hinv
            dsimp only at hw1 hinv1
            have xs6 := xs.below hb6 xs.lt
            have y96 := y9.below hb6 y9.lt
            have y106 := y10.below hb6 y10.lt
            have hb06 : Below bs wo w6 := hbr.trans (hb6.mono (Nat.le_of_lt hbsl))
            have hbx : bx ≠ bs := by omega
            have hcp := HW.out.1 pt1 hP1.1 hP1.2
            have hsp := hsb pt1
            have cs1 := (xs6.cell pt1).trans (iCells_at _ _ (by omega))
            have cc1 := (y96.cell pt1).trans (iCells_at _ _ (by omega))
            have fs1 := xs6.frozen pt1
            have hbs6 := xs6.lt
            have hb96 := y96.lt
            have HA := Lib.hid (And.intro hb06 (And.intro xs6 (And.intro y96 (And.intro y106 (And.intro hx1 (And.intro hD1 (And.intro hw1 (And.intro hinv1 hsb))))))))
            clear hbr xs hinv hsb y9 y10 hb6 hN1 hx1 hD1 hw1 hinv1 hne xs6 y96 y106 hb06
            obtain ⟨hp1, hp2⟩ := hP1
            have hlt0 : decide ((pt1 : Int) < 1) = false := by simp; omega
            have hgt0 : decide ((28 : Int) < pt1) = false := by simp; omega
            go_wp2_with fail
            refine wp_region_sub [9] (fun W => Below w6.heap.size w6 W) (by kernel_rfl) (by kernel_rfl) ((Below.refl _ _).drew) (fun _ => ?_)
            iterate 9 (refine mix_read (by kernel_rfl) (by rfl) (by rfl) (by rfl) (of_decide_eq_true (by kernel_rfl)) ?_; apply Exists.intro; apply Exists.intro; refine ⟨fun w' hw' K hK => ?_, ?_, ?_⟩; (obtain ⟨X, rfl⟩ := hw'; go_wp2_with fail; first | exact ⟨rfl, rfl⟩ | exact rfl); rfl)
            (refine mix_last (by rfl) (by rfl) (by kernel_rfl) (fun K hK => ?_))
            go_wp2_with fail
            generalize hW7 : World.drew _ = W7
            have b67 : But (· = bs) w6.heap.size w6 W7 := by rw [← hW7]; exact ((But.refl (· = bs) _ _).setCell (p := ⟨bs, pt1, none⟩) (fun _ => rfl) _).drew
            have x7 : Blk W7 bs 30 (iCells (upd s pt1 (s pt1 + cost pt1))) := by
              rw [← hW7, ← iCells_set _ _ _ (by omega)]
              exact (HA.out.2.1.set_ pt1 _).drew
            clear hW7
            obtain ⟨hb06, xs6, y96, y106, hx1, hD1, hw1, hinv1, hsb⟩ := HA.out
            have hbxl := hx1.lt
            have b7 : Below bs wo W7 := hb06.trans (b67.below (by intro j hj; omega) (by omega))
            have z9 := b67.blk (by omega) (by omega) y96
            have z10 := b67.blk (by have := y106.lt; omega) (by omega) y106
            have zd := b67.blk hbxl hbx hx1
            have hs1 : ∀ j, 0 ≤ upd s pt1 (s pt1 + cost pt1) j ∧ upd s pt1 (s pt1 + cost pt1) j ≤ 40000 * (k + 1) := fun j => by
              have := hsb j
              unfold upd; split <;> omega
            generalize upd s pt1 (s pt1 + cost pt1) = s1 at *
            have HA2 := Lib.hid (And.intro b7 (And.intro x7 (And.intro z9 (And.intro z10 (And.intro zd (And.intro hD1 (And.intro hw1 (And.intro hinv1 hs1))))))))
            have hz7 : bs < W7.heap.size := x7.lt
            clear HA hb06 xs6 y96 y106 hx1 hD1 hw1 hinv1 hsb b67 b7 x7 z9 z10 zd cs1 cc1 fs1 hsp hcp hs1
            go_wp2_with fail
            obtain ⟨wi, rfl⟩ : ∃ wi, wi = wr := ⟨wr, rfl⟩
            go_loopw [18] (fun i wr => ∃ j : Nat, j ≤ nl ∧ i = .int .i64 j ∧ Below W7.heap.size W7 wr) (fun i _ => nl - (intOf i).toNat)
            case atStart => exact ⟨0, by omega, rfl, Below.refl _ _⟩
            case round =>
              obtain ⟨j, hj, rfl, hbj⟩ := hrel
              obtain ⟨b7, x7, z9, z10, zd, hD1, hw1, hinv1, hs1⟩ := HA2.out
              by_cases hjl : j < nl
              · obtain ⟨mj, hmj1, hmj2, hbit, hget⟩ := mbits_get x j (by have := HN.out.1; omega)
                have hwj : wants (mbits x 29) mj = true := by
                  have h1 := mbits_any x mj ⟨hmj1, hmj2⟩
                  rw [hbit, ← modesOf_any (mbits x 29) mj ⟨hmj1, hmj2⟩] at h1
                  exact h1
                have hap := hinv1.apart (k := mj) (by omega) HW.out.2.1 HW.out.2.2 (by omega) ⟨hp1, hp2⟩ ⟨hmj1, hmj2⟩ hw1 hwj
                have e1 := hs1 pt1
                have e2 := hs1 mj
                have e3 := HW.out.2.1 pt1 hp1 hp2
                have e4 := HW.out.2.1 mj hmj1 hmj2
                have cs1 := ((x7.below hbj x7.lt).cell pt1).trans (iCells_at _ _ (by omega))
                have cs2 := ((x7.below hbj x7.lt).cell mj).trans (iCells_at _ _ (by omega))
                have cw1 := ((z10.below hbj z10.lt).cell pt1).trans (iCells_at _ _ (by omega))
                have cw2 := ((z10.below hbj z10.lt).cell mj).trans (iCells_at _ _ (by omega))
                have hRj := ((HM.out.2.2.2.2.1.more (B' := bs) (by have := HBS.out; omega)).below (b7.trans (hbj.mono (by omega))))
                rcases hRj with hnil | ⟨bA, oA, rfl, hbA, hcell⟩
                · have h0 := congrArg List.length hnil; simp [HN.out.1] at h0; omega
                have c0 := hcell j _ (by rw [List.getElem?_map, hget]; rfl)
                have hbsr : bs < wr.heap.size := Nat.lt_of_lt_of_le hz7 hbj.size
                have hbAr : bA < wr.heap.size := by omega
                have hb9r : b9 + 1 < wr.heap.size := by omega
                generalize s1 pt1 = a1 at *
                generalize s1 mj = a2 at *
                generalize weight pt1 = v1 at *
                generalize weight mj = v2 at *
                have p1 : 0 ≤ a1 * v2 ∧ a1 * v2 ≤ 200000000 := by
                  refine ⟨Int.mul_nonneg e1.1 (by omega), ?_⟩
                  have : a1 * v2 ≤ a1 * 8 := Int.mul_le_mul_of_nonneg_left e4.2 e1.1
                  omega
                have p2 : 0 ≤ a2 * v1 ∧ a2 * v1 ≤ 200000000 := by
                  refine ⟨Int.mul_nonneg e2.1 (by omega), ?_⟩
                  have : a2 * v1 ≤ a2 * 8 := Int.mul_le_mul_of_nonneg_left e3.2 e2.1
                  omega
                have p3 : 0 ≤ (3 * q + 2 * dear) * v1 ∧ (3 * q + 2 * dear) * v1 ≤ 2400000 := by
                  refine ⟨Int.mul_nonneg (by omega) (by omega), ?_⟩
                  have : (3 * q + 2 * dear) * v1 ≤ (3 * q + 2 * dear) * 8 := Int.mul_le_mul_of_nonneg_left e3.2 (by omega)
                  omega
                have p4 : 0 ≤ (3 * q + 2 * dear) * v1 * v2 ∧ (3 * q + 2 * dear) * v1 * v2 ≤ 19200000 := by
                  refine ⟨Int.mul_nonneg p3.1 (by omega), ?_⟩
                  have : (3 * q + 2 * dear) * v1 * v2 ≤ (3 * q + 2 * dear) * v1 * 8 := Int.mul_le_mul_of_nonneg_left e4.2 p3.1
                  omega
                have hdec : decide ((3 * q + 2 * dear) * v1 * v2 < a1 * v2 - a2 * v1) = false := by simp; omega
                have HJ := Lib.hid (And.intro hbj hget)
                clear hap hcell hget hbit hwj b7 x7 z9 z10 zd hD1 hw1 hinv1 hs1 e1 e2 hbj
                go_wp2_with fail
                refine wp_region_sub [] (fun W => Below wr.heap.size wr W) (by kernel_rfl) (by kernel_rfl) ((Below.refl _ _).drew) (fun _ => ?_)
                iterate 22 (refine mix_read (by kernel_rfl) (by rfl) (by rfl) (by rfl) (of_decide_eq_true (by kernel_rfl)) ?_; apply Exists.intro; apply Exists.intro; refine ⟨fun w' hw' K hK => ?_, ?_, ?_⟩; (obtain ⟨X, rfl⟩ := hw'; go_wp2_with fail; first | exact ⟨rfl, rfl⟩ | exact rfl); rfl)
                refine mix_nil ?_
                go_wp2_with fail
                refine wp_region_sub [] (fun W => Below wr.heap.size wr W) (by kernel_rfl) (by kernel_rfl) ((Below.refl _ _).drew.drew) (fun _ => ?_)
                iterate 20 (refine mix_read (by kernel_rfl) (by rfl) (by rfl) (by rfl) (of_decide_eq_true (by kernel_rfl)) ?_; apply Exists.intro; apply Exists.intro; refine ⟨fun w' hw' K hK => ?_, ?_, ?_⟩; (obtain ⟨X, rfl⟩ := hw'; go_wp2_with fail; first | exact ⟨rfl, rfl⟩ | exact rfl); rfl)
                refine mix_nil ?_
                go_wp2_with fail
                go_roundw
                case rel => exact ⟨j + 1, by omega, by go_num, HJ.out.1.drew.drew⟩
                case measure => simp [intOf]; omega
              · have hdec : ¬ j < nl := hjl
                have HJ := Lib.hid (And.intro (b7.trans (hbj.mono (by omega))) (And.intro (x7.below hbj x7.lt) (And.intro (zd.below hbj zd.lt) (And.intro hD1 (And.intro hinv1 hs1)))))
                clear b7 x7 z9 z10 zd hD1 hw1 hinv1 hs1 hbj
                go_wp2_with fail
                go_roundw
                case rel => exact ⟨k + 1, bx, df1, pt1, fed1, s1, by omega, by go_num, rfl, hbx, HJ.out.1, HJ.out.2.1, HJ.out.2.2.1, HJ.out.2.2.2.1, ⟨hp1, hp2⟩, HJ.out.2.2.2.2.1, HJ.out.2.2.2.2.2⟩
                case measure => simp [intOf]; omega
          · obtain rfl : k = 400 := by omega
            have HJ := Lib.hid hbr
            clear hbr xs xd hdf hinv hsb
            go_wp2_with fail
            go_ret
            exact ⟨rfl, HB.out.1.trans (HM.out.2.1.trans (HJ.out.mono (by omega)) |>.mono (by omega))⟩

theorem DrrFair_walk (v0 v1 v2 : Value) (W : World) (c0 : Came Try.prog W 42 v0) (c1 : Came Try.prog W 47 v1) (c2 : Came Try.prog W 45 v2) :
    Calls Try.prog 5 #[v0, v1, v2] W fun e w' => e = .returned (.bool true) ∧ Below W.heap.size W w' := by
  obtain ⟨x, rfl, hx⟩ := c0.int Try.underlying42
  obtain ⟨ta, rfl, hta⟩ := came_tables16 c1
  obtain ⟨qu, rfl, hq⟩ := c2.int Try.underlying45
  simp [Lit.wf, IntKind.min, IntKind.max, IntKind.signed, IntKind.bits] at hx hq
  exact DrrFair_walk' x (by omega) ta hta qu (by omega) W

end Go.Proofs.Ytfbfjlogcphlfaa
