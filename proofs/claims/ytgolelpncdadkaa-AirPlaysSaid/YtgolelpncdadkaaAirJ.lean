/- AirApart: both rows go on apart. -/
import Derived.Test.YtgolelpncdadkaaAirI
import Derived.Laws.BitsLemmas
import Derived.Deep.CutRange
import Derived.Deep.CutBlock
set_option linter.unusedSimpArgs false
set_option linter.unusedVariables false
namespace Go.Proofs.Ytgolelpncdadkaa
open Go.RowKit Go.Shelf
attribute [local irreducible] wpMix

/-- The turns that a slice holds. -/
def TurnsAt (w : World) (A : Option Addr) (len : Nat) (f : Nat → Nat × Nat) : Prop := ∀ i, i < len → ∃ b o, A = some ⟨b, o, none⟩ ∧ b < w.heap.size ∧
  w.cell? ⟨b, o + i * 2, none⟩ = some (.int .u8 ((f i).1 : Int)) ∧ w.cell? ⟨b, o + i * 2 + 1, none⟩ = some (.int .u8 ((f i).2 : Int)) ∧ (f i).1 < 256 ∧ (f i).2 < 256
def MasksAt (w : World) (A : Option Addr) (len : Nat) (g : Nat → Nat) : Prop := ∀ i, i < len → ∃ b o, A = some ⟨b, o, none⟩ ∧ b < w.heap.size ∧
  w.cell? ⟨b, o + i, none⟩ = some (.int .u8 (g i : Int)) ∧ g i < 256

def tsF (f : Nat → Nat × Nat) (k : Nat) : List (Int × Int) := (List.range k).map fun i => (((f i).1 : Int) % 73, 1 + ((f i).2 : Int) % 255)
def msF (g : Nat → Nat) (k : Nat) : List Int := (List.range k).map fun i => (g i : Int)
theorem tsF_succ (f : Nat → Nat × Nat) (k : Nat) : tsF f (k + 1) = tsF f k ++ [(((f k).1 : Int) % 73, 1 + ((f k).2 : Int) % 255)] := by simp [tsF, List.range_succ]
theorem msF_succ (g : Nat → Nat) (k : Nat) : msF g (k + 1) = msF g k ++ [(g k : Int)] := by simp [msF, List.range_succ]
theorem tsF_len (f : Nat → Nat × Nat) (k : Nat) : (tsF f k).length = k := by simp [tsF]
theorem msF_len (g : Nat → Nat) (k : Nat) : (msF g k).length = k := by simp [msF]
theorem tsF_ok (f : Nat → Nat × Nat) (k : Nat) : TurnsOk (tsF f k) := by
  intro t ht
  simp only [tsF, List.mem_map] at ht
  obtain ⟨i, _, rfl⟩ := ht
  simp only
  omega
theorem TurnsOk.drop {l : List (Int × Int)} (h : TurnsOk l) (i : Nat) : TurnsOk (l.drop i) := fun x hx => h x (List.mem_of_mem_drop hx)
theorem tail_drop {α : Type} (l : List α) (i : Nat) : (l.drop i).tail = l.drop (i + 1) := by simp

/-- All masks together. -/
def orF (g : Nat → Nat) : Nat → Nat
  | 0 => 0
  | k + 1 => orF g k ||| g k
theorem orF_lt (g : Nat → Nat) : ∀ k, (∀ i, i < k → g i < 256) → orF g k < 256
  | 0, _ => by simp [orF]
  | k + 1, h => by rw [orF]; exact Nat.or_lt_two_pow (n := 8) (orF_lt g k fun i hi => h i (by omega)) (h k (by omega))
theorem orF_test (g : Nat → Nat) (n : Nat) : ∀ k j, j < k → (g j).testBit n = true → (orF g k).testBit n = true
  | k + 1, j, hj, h => by
    rw [orF, Nat.testBit_or]
    by_cases e : j = k
    · subst e; simp [h]
    · rw [orF_test g n k j (by omega) h]; rfl
theorem bits_or_i64 (a b : Nat) (ha : a < 256) (hb : b < 256) : Go.bits BinOp.or IntKind.i64 (a : Int) (b : Int) = ((a ||| b : Nat) : Int) :=
  (bits_nat .i64 8 (by decide) (by intro n h0 h1; rw [IntKind.wrap_i64]; omega) a b ha hb).2
theorem bits_andNot_i64 (a b : Nat) (ha : a < 256) (hb : b < 256) (h : ∀ n, a.testBit n = true → b.testBit n = true) : Go.bits BinOp.andNot IntKind.i64 (a : Int) (b : Int) = 0 := by
  have ha' : a % 2 ^ 64 = a := Nat.mod_eq_of_lt (by omega)
  have hb' : b % 2 ^ 64 = b := Nat.mod_eq_of_lt (by omega)
  have : (BitVec.ofInt 64 (a : Int)) &&& ~~~ (BitVec.ofInt 64 (b : Int)) = 0#64 := by
    apply BitVec.eq_of_getLsbD_eq
    intro i hi
    simp only [BitVec.ofInt_natCast, BitVec.getLsbD_and, BitVec.getLsbD_not, BitVec.getLsbD_ofNat, hi, decide_true, Bool.true_and]
    by_cases hx : a.testBit i = true
    · rw [h i hx]; simp
    · simp at hx; simp [hx]
  simp only [bits]
  rw [show (BitVec.ofInt IntKind.i64.bits (a : Int) &&& ~~~ BitVec.ofInt IntKind.i64.bits (b : Int)) = BitVec.ofNat IntKind.i64.bits 0 from this]
  decide

theorem lost_ok (g : Nat → Nat) (k : Nat) (hg : ∀ i, i < k → g i < 256) (i : Nat) : ∃ x : Nat, ((msF g k).drop i).headD 0 = (x : Int) ∧ Go.bits BinOp.andNot IntKind.i64 (x : Int) ((orF g k : Nat) : Int) = 0 := by
  by_cases h : i < k
  · refine ⟨g i, ?_, bits_andNot_i64 _ _ (hg i h) (orF_lt g k hg) fun n hn => orF_test g n k i h hn⟩
    rw [List.headD_eq_head?_getD, List.head?_drop]
    simp [msF, h]
  · refine ⟨0, ?_, bits_andNot_i64 _ _ (by omega) (orF_lt g k hg) fun n hn => by simp at hn⟩
    rw [List.drop_eq_nil_of_le (by rw [msF_len]; omega)]
    rfl

set_option maxRecDepth 1000000 in
set_option maxHeartbeats 4000000 in
theorem apart_any (s : ByteArray) (hs : s.size ≤ maxLen) (A1 : Option Addr) (len1 cap1 : Nat) (h1 : len1 ≤ maxLen) (f : Nat → Nat × Nat) (A2 : Option Addr) (len2 cap2 : Nat) (h2 : len2 ≤ maxLen) (g : Nat → Nat) (w : World)
    (hf : TurnsAt w A1 len1 f) (hg : MasksAt w A2 len2 g) :
    Calls Try.prog 5 #[.string s, .slice A1 len1 cap1, .slice A2 len2 cap2] w fun e w' => e = .returned (.bool true) ∧ Below w.heap.size w w' := by
  have HF := Lib.hid (And.intro hf hg)
  clear hf hg
  unfold maxLen at hs h1 h2
  go_enter Try.func5, Try.ntmps5
  go_wp2_with fail
  refine (works_yes _).mono ?_
  rintro e w1 ⟨rfl, hb1⟩
  have H1 := Lib.hid ((Sep.nil w).below hb1)
  clear hb1
  have hd : (s.size : Int) ≤ 12 ∨ (12 : Int) < s.size := by omega
  go_upto_region 3 with fail
  go_cut [0] from 24 to 29 (fun v wx => (∃ s' : ByteArray, v = .string s') ∧ wx = w1)
  case first =>
    rcases hd with hd | hd
    · go_wp2_with fail
      all_goals (go_meet; exact ⟨⟨_, rfl⟩, rfl⟩)
    · go_wp2_with fail
      all_goals (go_meet; exact ⟨⟨_, rfl⟩, rfl⟩)
  case rest =>
    obtain ⟨⟨s', rfl⟩, rfl⟩ := hcut
    clear hd hs
    go_wp2_with fail
    refine (sNew H1.out 8 (by decide)).mono ?_
    rintro e w2 ⟨rfl, h2'⟩
    have H2 := Lib.hid h2'
    clear h2'
    go_wp2_with fail
    refine (sNew H2.out 8 (by decide)).mono ?_
    rintro e w3 ⟨rfl, h3⟩
    have H3 := Lib.hid h3
    clear h3
    go_wp2_with fail
    refine (sNew H3.out 8 (by decide)).mono ?_
    rintro e w4 ⟨rfl, h4⟩
    simp only [List.nil_append, List.cons_append] at h4
    have H4 := Lib.hid h4
    clear h4 H1 H2 H3
    generalize wc.heap.size = ba at *
    generalize w2.heap.size = bb at *
    generalize w3.heap.size = bc at *
    go_wp2_with fail
    go_loopw [11] (fun p wr => ∃ k : Nat, k ≤ 40 ∧ k ≤ len1 ∧ p = .int .i64 k ∧ Sep w.heap.size w wr [AirT ba 8 [] (tsF f k), AirT bb 8 [] (tsF f k), AirT bc 8 [] []])
      (fun p wr => 40 - (intOf p).toNat)
    case atStart => exact ⟨0, by omega, by omega, rfl, H4.out⟩
    case round =>
      obtain ⟨k, hk40, hkl, rfl, hS⟩ := hrel
      have HS := Lib.hid hS
      clear hS H4
      by_cases hlt : k < len1 ∧ k < 40
      · obtain ⟨hl1, hl2⟩ := hlt
        obtain ⟨b, o, rfl, hbl, c0, c1, r0, r1⟩ := HF.out.1 k hl1
        have hsu := tsF_succ f k
        generalize (f k).1 = x at *
        generalize (f k).2 = y at *
        have HU := Lib.hid hsu
        clear hsu
        have g1 : decide ((k : Int) < 40) = true := by rw [decide_eq_true_iff]; omega
        have g2 : decide ((k : Int) < (len1 : Int)) = true := by rw [decide_eq_true_iff]; omega
        go_wp2_with fail
        refine wp_region_sub [16] (fun W' => Below w.heap.size w W') (by kernel_rfl) (by kernel_rfl) (HS.out.world.drew) (fun _ => ?_)
        iterate 16 (refine mix_read (by kernel_rfl) (by rfl) (by rfl) (by rfl) (of_decide_eq_true (by kernel_rfl)) ?_; apply Exists.intro; apply Exists.intro; refine ⟨fun w' hw' K hK => ?_, ?_, ?_⟩; (obtain ⟨X, rfl⟩ := hw'; go_wp2_with fail; first | exact ⟨rfl, rfl⟩ | exact rfl); rfl)
        (refine mix_act (by rfl) (by rfl) (fun K hK => ?_))
        go_wp2_with fail
        refine (sTurn (HS.out.below ((Below.refl _ _).drew)) 0 rfl ((x : Int) % 73) (1 + (y : Int) % 255) (by omega) (by omega) (by rw [tsF_len]; omega)).mono ?_
        rintro e w5 ⟨rfl, h5⟩
        have H5 := Lib.hid h5
        clear h5
        go_wp2_with fail
        refine ⟨.mk H5.out.world, ?_⟩
        refine mix_nil ?_
        go_wp2_with fail
        refine wp_region_sub [16] (fun W' => Below w.heap.size w W') (by kernel_rfl) (by kernel_rfl) (H5.out.world.drew) (fun _ => ?_)
        iterate 16 (refine mix_read (by kernel_rfl) (by rfl) (by rfl) (by rfl) (of_decide_eq_true (by kernel_rfl)) ?_; apply Exists.intro; apply Exists.intro; refine ⟨fun w' hw' K hK => ?_, ?_, ?_⟩; (obtain ⟨X, rfl⟩ := hw'; go_wp2_with fail; first | exact ⟨rfl, rfl⟩ | exact rfl); rfl)
        (refine mix_act (by rfl) (by rfl) (fun K hK => ?_))
        go_wp2_with fail
        refine (sTurn (H5.out.below ((Below.refl _ _).drew)) 1 rfl ((x : Int) % 73) (1 + (y : Int) % 255) (by omega) (by omega) (by rw [tsF_len]; omega)).mono ?_
        rintro e w6 ⟨rfl, h6⟩
        have H6 := Lib.hid h6
        clear h6
        go_wp2_with fail
        refine ⟨.mk H6.out.world, ?_⟩
        refine mix_nil ?_
        go_wp2_with fail
        go_roundw
        case rel => exact ⟨k + 1, by omega, by omega, by go_num, by rw [HU.out]; exact H6.out⟩
        case measure => simp [intOf]; omega
      · have hts : TurnsOk (tsF f k) := tsF_ok f k
        have htl := tsF_len f k
        generalize tsF f k = ts at *
        have HT := Lib.hid (And.intro hts (And.intro htl (And.intro hk40 HS.out)))
        clear hts htl HS
        have hor : (decide ((k : Int) < (len1 : Int)) = false) ∨ (decide ((k : Int) < (len1 : Int)) = true ∧ decide ((k : Int) < 40) = false) := by
          by_cases h : k < len1
          · right; exact ⟨by rw [decide_eq_true_iff]; omega, by rw [decide_eq_false_iff_not]; omega⟩
          · left; rw [decide_eq_false_iff_not]; omega
        clear hlt
        go_upto_region 9 with fail
        go_cut [50] from 43 to 50 (fun v wx => v = .bool false ∧ wx = wr)
        case first =>
          rcases hor with g | ⟨g, g'⟩
          · go_wp2_with fail
            all_goals (go_meet; first | exact ⟨rfl, rfl⟩ | (exfalso; have := of_decide_eq_false g; omega) | (refine ⟨?_, rfl⟩; have := of_decide_eq_false g; simp; omega))
          · go_wp2_with fail
            all_goals (go_meet; first | exact ⟨rfl, rfl⟩ | (refine ⟨?_, rfl⟩; have := of_decide_eq_false g'; simp; omega))
        case rest =>
          obtain ⟨rfl, rfl⟩ := hcut
          clear hor
          go_upto_region 13 with fail
          go_wp2_with fail
          go_loopw [10, 12] (fun q p wr => ∃ k : Nat, k ≤ 40 ∧ k ≤ len2 ∧ p = .int .i64 k ∧ q = .int .i64 (orF g k : Nat) ∧ Sep w.heap.size w wr [AirT ba 8 (msF g k) ts, AirT bb 8 [] ts, AirT bc 8 (msF g k) []])
            (fun q p wr => 40 - (intOf p).toNat)
          case atStart => exact ⟨0, by omega, by omega, rfl, rfl, HT.out.2.2.2⟩
          case round =>
            obtain ⟨m, hm40, hml, rfl, rfl, hS⟩ := hrel
            have HS := Lib.hid hS
            clear hS
            by_cases hlt : m < len2 ∧ m < 40
            · obtain ⟨hl1, hl2⟩ := hlt
              obtain ⟨b, o, rfl, hbl, c0, r0⟩ := HF.out.2 m hl1
              have e0 := (HS.out.world.cell (p := ⟨b, o + m, none⟩) hbl).trans c0
              have hsu := msF_succ g m
              have hou : ((orF g (m + 1) : Nat) : Int) = Go.bits BinOp.or IntKind.i64 ((orF g m : Nat) : Int) (g m : Int) :=
                (bits_or_i64 _ _ (orF_lt g m fun i hi => by obtain ⟨_, _, _, _, _, h⟩ := HF.out.2 i (by omega); exact h) r0).symm
              generalize g m = z at *
              have HU := Lib.hid (And.intro hsu (And.intro hbl (And.intro c0 hou)))
              clear hsu hbl c0 hou
              have g1 : decide ((m : Int) < 40) = true := by rw [decide_eq_true_iff]; omega
              have g2 : decide ((m : Int) < (len2 : Int)) = true := by rw [decide_eq_true_iff]; omega
              have h28 : (2 : Int) ^ 8 = 256 := by decide
              have hz : (z : Int) < 2 ^ 8 := by rw [h28]; omega
              have HZ := Lib.hid hz
              clear h28 hz
              go_wp2_with fail
              refine (sErase HS.out 0 rfl (by decide) (z : Int) (by omega) HZ.out (by rw [msF_len]; omega)).mono ?_
              rintro e w5 ⟨rfl, h5⟩
              have H5 := Lib.hid h5
              clear h5
              have e0 := (H5.out.world.cell (p := ⟨b, o + m, none⟩) HU.out.2.1).trans HU.out.2.2.1
              go_wp2_with fail
              refine (sErase H5.out 2 rfl (by decide) (z : Int) (by omega) HZ.out (by rw [msF_len]; omega)).mono ?_
              rintro e w6 ⟨rfl, h6⟩
              have H6 := Lib.hid h6
              clear h6
              have e0 := (H6.out.world.cell (p := ⟨b, o + m, none⟩) HU.out.2.1).trans HU.out.2.2.1
              go_wp2_with fail
              go_roundw
              case rel => exact ⟨m + 1, by omega, by omega, by go_num, by rw [HU.out.2.2.2], by rw [HU.out.1]; exact H6.out⟩
              case measure => simp [intOf]; omega
            · have hlo := lost_ok g m (fun i hi => by obtain ⟨_, _, _, _, _, h⟩ := HF.out.2 i (by omega); exact h)
              have hml := msF_len g m
              generalize msF g m = ms at *
              have HL := Lib.hid (And.intro hlo (And.intro hml hm40))
              clear hlo hml
              have hor : (decide ((m : Int) < (len2 : Int)) = false) ∨ (decide ((m : Int) < (len2 : Int)) = true ∧ decide ((m : Int) < 40) = false) := by
                by_cases h : m < len2
                · right; exact ⟨by rw [decide_eq_true_iff]; omega, by rw [decide_eq_false_iff_not]; omega⟩
                · left; rw [decide_eq_false_iff_not]; omega
              clear hlt
              generalize hall : orF g m = al at *
              clear hall
              go_upto_region 14 with fail
              go_cut [94] from 87 to 94 (fun v wx => v = .bool false ∧ wx = wr)
              case first =>
                rcases hor with g | ⟨g, g'⟩
                · go_wp2_with fail
                  all_goals (go_meet; first | exact ⟨rfl, rfl⟩ | (exfalso; have := of_decide_eq_false g; omega) | (refine ⟨?_, rfl⟩; have := of_decide_eq_false g; simp; omega))
                · go_wp2_with fail
                  all_goals (go_meet; first | exact ⟨rfl, rfl⟩ | (refine ⟨?_, rfl⟩; have := of_decide_eq_false g'; simp; omega))
              case rest =>
                obtain ⟨rfl, rfl⟩ := hcut
                clear hor
                go_upto_region 19 with fail
                go_wp2_with fail
                go_loopw [13] (fun p wr => ∃ i : Nat, i ≤ 45 ∧ p = .int .i64 i ∧ Sep w.heap.size w wr [AirT ba 8 (ms.drop i) (ts.drop i), AirT bb 8 [] (ts.drop i), AirT bc 8 (ms.drop i) []])
                  (fun p wr => 45 - (intOf p).toNat)
                case atStart => exact ⟨0, by omega, rfl, HS.out⟩
                case round =>
                  obtain ⟨i, hi45, rfl, hS⟩ := hrel
                  have HI := Lib.hid hS
                  clear hS
                  by_cases hi : i < 45
                  · obtain ⟨x, hx1, hx2⟩ := HL.out.1 i
                    obtain ⟨t, ht⟩ : ∃ t, passOut s' (ts.drop i) = t := ⟨_, rfl⟩
                    obtain ⟨bl, hbl⟩ : ∃ bl, (!(ts.drop i).isEmpty) = bl := ⟨_, rfl⟩
                    have p1 := sPass HI.out 0 rfl (by simp; have := HL.out.2.1; omega) (by simp; have := HT.out.2.1; omega) (HT.out.1.drop i) s'
                    rw [ht, hbl, hx1, tail_drop, tail_drop] at p1
                    have P1 := Lib.hid p1
                    have HX := Lib.hid (And.intro ht (And.intro hbl hx1))
                    clear p1 ht hbl hx1
                    go_wp2_with fail
                    refine P1.out.mono ?_
                    rintro e w5 ⟨rfl, h5⟩
                    have p2 := sPass h5 1 rfl (by simp) (by simp; have := HT.out.2.1; omega) (HT.out.1.drop i) s'
                    rw [HX.out.1, HX.out.2.1, tail_drop] at p2
                    have P2 := Lib.hid p2
                    clear p2 h5
                    go_wp2_with fail
                    refine P2.out.mono ?_
                    rintro e w6 ⟨rfl, h6⟩
                    have p3 := sPass h6 2 rfl (by simp; have := HL.out.2.1; omega) (by simp) (by intro t ht; simp at ht) s'
                    rw [HX.out.2.2, tail_drop] at p3
                    have P3 := Lib.hid p3
                    clear p3 h6
                    go_wp2_with fail
                    refine P3.out.mono ?_
                    rintro e w7 ⟨rfl, h7⟩
                    have H7 := Lib.hid h7
                    clear h7
                    simp only [passOut, List.headD_nil, List.isEmpty_nil, Bool.not_true]
                    go_wp2_with fail
                    go_roundw
                    case rel => exact ⟨i + 1, by omega, by go_num, H7.out⟩
                    case measure => simp [intOf]; omega
                  · go_wp2_with fail
                    go_ret
                    exact ⟨rfl, HI.out.world⟩

theorem u8_two {P : Program} {w : World} {t : TypeId} {cs : List Value} (ht : P.underlying t = some (.int .u8)) (h : Tr P w t cs) : ∃ n : Nat, n < 256 ∧ cs = [.int .u8 (n : Int)] := by
  obtain ⟨n, rfl, hn⟩ := h.int ht
  simp [Lit.wf, IntKind.min, IntKind.max, IntKind.signed, IntKind.bits] at hn
  exact ⟨n.toNat, by omega, by rw [Int.toNat_of_nonneg (by omega)]⟩

theorem came_masks {W : World} {v : Value} (c : Came Try.prog W 37 v) : ∃ A len cap g, v = .slice A len cap ∧ len ≤ maxLen ∧ MasksAt W A len g := by
  obtain ⟨A, len, cap, rfl, ht⟩ := c.slice Try.underlying37
  have he : Try.prog.cellsOf 5 = 1 := by kernel_rfl
  obtain ⟨A', len', cap', vs, hcs, hn, hc, _, hvl, hR, hel⟩ := ht.slice Try.underlying37 (by rw [he]; omega)
  cases hcs
  rw [he] at hvl hel
  have hel' : ∀ i, ∃ n : Nat, i < len → n < 256 ∧ vs[i]? = some (.int .u8 (n : Int)) := fun i => by
    by_cases hi : i < len
    · obtain ⟨n, hn, hcs⟩ := u8_two Try.underlying5 (hel i hi)
      refine ⟨n, fun _ => ⟨hn, ?_⟩⟩
      have := congrArg (fun l => l[0]?) hcs
      simpa using this
    · exact ⟨0, fun h => absurd h hi⟩
  refine ⟨A, len, cap, fun i => Classical.choose (hel' i), rfl, Nat.le_trans hn hc, fun i hi => ?_⟩
  have hch := Classical.choose_spec (hel' i) hi
  obtain ⟨b, o, hA, hb, hcell⟩ := hR.at_ (k := i) (by omega)
  exact ⟨b, o, hA, hb, by rw [hcell, List.getD_eq_getElem?_getD, hch.2]; rfl, hch.1⟩
theorem came_turns {W : World} {v : Value} (c : Came Try.prog W 36 v) : ∃ A len cap f, v = .slice A len cap ∧ len ≤ maxLen ∧ TurnsAt W A len f := by
  obtain ⟨A, len, cap, rfl, ht⟩ := c.slice Try.underlying36
  have he : Try.prog.cellsOf 39 = 2 := by kernel_rfl
  have he1 : Try.prog.cellsOf 5 = 1 := by kernel_rfl
  obtain ⟨A', len', cap', vs, hcs, hn, hc, _, hvl, hR, hel⟩ := ht.slice Try.underlying36 (by rw [he]; omega)
  cases hcs
  rw [he] at hvl hel
  have hel' : ∀ i, ∃ n : Nat × Nat, i < len → n.1 < 256 ∧ n.2 < 256 ∧ vs[i * 2]? = some (.int .u8 (n.1 : Int)) ∧ vs[i * 2 + 1]? = some (.int .u8 (n.2 : Int)) := fun i => by
    by_cases hi : i < len
    · obtain ⟨hlen, hf⟩ := (hel i hi).struct Try.underlying39
      have h0 : Tr Try.prog W 5 ((((vs.drop (i * 2)).take 2).drop 0).take (Try.prog.cellsOf 5)) := hf 0 _ rfl
      have h1 : Tr Try.prog W 5 ((((vs.drop (i * 2)).take 2).drop 1).take (Try.prog.cellsOf 5)) := hf 1 _ rfl
      rw [he1] at h0 h1
      obtain ⟨n0, hn0, hc0⟩ := u8_two Try.underlying5 h0
      obtain ⟨n1, hn1, hc1⟩ := u8_two Try.underlying5 h1
      refine ⟨(n0, n1), fun _ => ⟨hn0, hn1, ?_, ?_⟩⟩
      · have := congrArg (fun l => l[0]?) hc0
        simpa using this
      · have := congrArg (fun l => l[0]?) hc1
        simpa using this
    · exact ⟨(0, 0), fun h => absurd h hi⟩
  refine ⟨A, len, cap, fun i => Classical.choose (hel' i), rfl, Nat.le_trans hn hc, fun i hi => ?_⟩
  have hch := Classical.choose_spec (hel' i) hi
  obtain ⟨b, o, hA, hb, hcell⟩ := hR.at_ (k := i * 2) (by omega)
  obtain ⟨b', o', hA', hb', hcell'⟩ := hR.at_ (k := i * 2 + 1) (by omega)
  rw [hA] at hA'
  cases hA'
  exact ⟨b, o, hA, hb, by rw [hcell, List.getD_eq_getElem?_getD, hch.2.2.1]; rfl, by rw [Nat.add_assoc, hcell', List.getD_eq_getElem?_getD, hch.2.2.2]; rfl, hch.1, hch.2.1⟩

theorem AirApart_walk (v0 v1 v2 : Value) (W : World) (c0 : Came Try.prog W 9 v0) (c1 : Came Try.prog W 36 v1) (c2 : Came Try.prog W 37 v2) :
    Calls Try.prog 5 #[v0, v1, v2] W fun e w' => e = .returned (.bool true) ∧ Below W.heap.size W w' := by
  obtain ⟨s, rfl, hs⟩ := c0.string Try.underlying9
  obtain ⟨A1, len1, cap1, f, rfl, h1, hf⟩ := came_turns c1
  obtain ⟨A2, len2, cap2, g, rfl, h2, hg⟩ := came_masks c2
  exact apart_any s hs A1 len1 cap1 h1 f A2 len2 cap2 h2 g W hf hg

end Go.Proofs.Ytgolelpncdadkaa
