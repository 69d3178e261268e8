/- AirTurns: what is turned are the bits that are named. -/
import Derived.Test.YtgolelpncdadkaaAirJ
set_option linter.unusedSimpArgs false
set_option linter.unusedVariables false
namespace Go.Proofs.Ytgolelpncdadkaa
open Go.RowKit Go.Shelf
attribute [local irreducible] wpMix

theorem flip1_get (bs : List UInt8) (x j : Nat) : (flip1 bs x)[j]? = bs[j]?.map fun c => if x / 8 = j then flipB c x else c := by
  unfold flip1
  by_cases h : x / 8 < bs.length
  · rw [dif_pos h]
    by_cases e : x / 8 = j
    · subst e
      rw [List.getElem?_set_self h, List.getElem?_eq_getElem h]
      simp
    · rw [List.getElem?_set_ne e]
      cases bs[j]? <;> simp [e]
  · rw [dif_neg h]
    by_cases e : x / 8 = j
    · subst e
      rw [List.getElem?_eq_none (by omega)]
      rfl
    · cases bs[j]? <;> simp [e]
theorem flipB_comm (c : UInt8) (x y : Nat) : flipB (flipB c x) y = flipB (flipB c y) x := by
  unfold flipB
  rw [UInt8.xor_assoc, UInt8.xor_assoc, UInt8.xor_comm (128 >>> UInt8.ofNat (x % 8))]
theorem flipB_twice (c : UInt8) (x : Nat) : flipB (flipB c x) x = c := by
  unfold flipB
  rw [UInt8.xor_assoc, UInt8.xor_self, UInt8.xor_zero]
theorem flip1_comm (bs : List UInt8) (x y : Nat) : flip1 (flip1 bs x) y = flip1 (flip1 bs y) x := by
  apply List.ext_getElem?
  intro j
  simp only [flip1_get, Option.map_map]
  cases bs[j]? with
  | none => rfl
  | some c =>
    simp only [Option.map_some, Function.comp]
    by_cases h1 : x / 8 = j <;> by_cases h2 : y / 8 = j <;> simp [h1, h2, flipB_comm c x y]
theorem flip1_twice (bs : List UInt8) (x : Nat) : flip1 (flip1 bs x) x = bs := by
  apply List.ext_getElem?
  intro j
  simp only [flip1_get, Option.map_map]
  cases bs[j]? with
  | none => rfl
  | some c =>
    simp only [Option.map_some, Function.comp]
    by_cases h1 : x / 8 = j <;> simp [h1, flipB_twice c x]
theorem flips_comm (l : List Nat) : ∀ (bs : List UInt8) (x : Nat), l.foldl flip1 (flip1 bs x) = flip1 (l.foldl flip1 bs) x := by
  induction l with
  | nil => intro bs x; rfl
  | cons y l ih => intro bs x; rw [List.foldl_cons, List.foldl_cons, flip1_comm, ih]
theorem flips_twice (l : List Nat) : ∀ bs : List UInt8, l.foldl flip1 (l.foldl flip1 bs) = bs := by
  induction l with
  | nil => intro bs; rfl
  | cons x l ih => intro bs; rw [List.foldl_cons, List.foldl_cons, flips_comm, ih, flip1_twice]
theorem flips_far (l : List Nat) (j : Nat) : ∀ bs : List UInt8, (∀ x ∈ l, x / 8 ≠ j) → (l.foldl flip1 bs)[j]? = bs[j]? := by
  induction l with
  | nil => intro bs _; rfl
  | cons x l ih =>
    intro bs h
    rw [List.foldl_cons, ih _ (fun y hy => h y (List.mem_cons_of_mem _ hy)), flip1_get]
    have := h x List.mem_cons_self
    cases bs[j]? <;> simp [this]
theorem bitsUp_ge (m a : Nat) : ∀ n, ∀ k ∈ bitsUp m a n, a ≤ k
  | 0, k, h => by simp [bitsUp] at h
  | n + 1, k, h => by
    rw [bitsUp, List.mem_append] at h
    rcases h with h | h
    · exact bitsUp_ge m a n k h
    · split at h
      · simp at h; omega
      · simp at h

theorem passOut_size (s : ByteArray) (ts : List (Int × Int)) : (passOut s ts).size = s.size := by
  cases ts with
  | nil => rfl
  | cons t l =>
    show ((((bitsUp t.2.toNat t.1.toNat 8).foldl flip1 s.data.toList).toArray).size) = s.data.size
    simp [flips_len]
theorem passOut_twice (s : ByteArray) (ts : List (Int × Int)) : passOut (passOut s ts) ts = s := by
  cases ts with
  | nil => rfl
  | cons t l =>
    simp only [passOut]
    rw [List.toList_toArray, flips_twice]
theorem passOut_far (s : ByteArray) (ts : List (Int × Int)) (k : Nat) (hk : k < s.size)
    (h : ∀ t ∈ ts.head?, (0 ≤ t.1 ∧ t.1 ≤ 72) ∧ (10 ≤ k ∨ (k : Int) < t.1 / 8 ∨ t.1 / 8 + 1 < (k : Int))) : (passOut s ts).data[k]? = s.data[k]? := by
  cases ts with
  | nil => rfl
  | cons t l =>
    obtain ⟨⟨h0, h72⟩, hh⟩ := h t rfl
    show ((bitsUp t.2.toNat t.1.toNat 8).foldl flip1 s.data.toList).toArray[k]? = _
    rw [List.getElem?_toArray, flips_far, Array.getElem?_toList]
    intro x hx
    have h1 := bitsUp_lt _ _ 8 x hx
    have h2 := bitsUp_ge _ _ 8 x hx
    omega

theorem lost_at (g : Nat → Nat) (k i : Nat) : ((msF g k).drop i).headD 0 = if i < k then (g i : Int) else 0 := by
  by_cases h : i < k
  · rw [if_pos h, List.headD_eq_head?_getD, List.head?_drop]
    simp [msF, h]
  · rw [if_neg h, List.drop_eq_nil_of_le (by rw [msF_len]; omega)]
    rfl
theorem turn_at (f : Nat → Nat × Nat) (k i : Nat) : ∀ t ∈ ((tsF f k).drop i).head?, i < k ∧ t.1 = ((f i).1 : Int) % 73 := by
  intro t ht
  rw [List.head?_drop] at ht
  by_cases h : i < k
  · simp [tsF, h] at ht
    exact ⟨h, by rw [← ht]⟩
  · simp [tsF, h] at ht

set_option maxRecDepth 1000000 in
set_option maxHeartbeats 4000000 in
theorem turns_any (s : ByteArray) (hs : s.size ≤ maxLen) (A1 : Option Addr) (len1 cap1 : Nat) (h1 : len1 ≤ cap1 ∧ cap1 ≤ maxLen) (f : Nat → Nat × Nat) (A2 : Option Addr) (len2 cap2 : Nat) (h2 : len2 ≤ cap2 ∧ cap2 ≤ maxLen) (g : Nat → Nat) (w : World)
    (hf : TurnsAt w A1 len1 f) (hg : MasksAt w A2 len2 g) :
    Calls Try.prog 4 #[.string s, .slice A1 len1 cap1, .slice A2 len2 cap2] w fun e w' => e = .returned (.bool true) ∧ Below w.heap.size w w' := by
  have HF := Lib.hid (And.intro hf hg)
  clear hf hg
  unfold maxLen at hs h1 h2
  go_enter Try.func4, Try.ntmps4
  go_wp2_with fail
  refine (works_yes _).mono ?_
  rintro e w1 ⟨rfl, hb1⟩
  have H1 := Lib.hid ((Sep.nil w).below hb1)
  clear hb1
  have hd : (s.size : Int) ≤ 200 ∨ (200 : Int) < s.size := by omega
  have hd1 : (len1 : Int) ≤ 30 ∨ (30 : Int) < len1 := by omega
  have hd2 : (len2 : Int) ≤ 30 ∨ (30 : Int) < len2 := by omega
  obtain ⟨h1, h1'⟩ := h1
  obtain ⟨h2, h2'⟩ := h2
  go_upto_region 3 with fail
  go_cut [0] from 24 to 29 (fun v wx => (∃ s' : ByteArray, v = .string s' ∧ s'.size ≤ 200) ∧ wx = w1)
  case first =>
    clear hd1 hd2 h1 h2
    rcases hd with hd | hd
    · go_wp2_with fail
      all_goals (go_meet; refine ⟨⟨_, rfl, ?_⟩, rfl⟩; first | omega | (simp [ByteArray.size_extract]; omega))
    · go_wp2_with fail
      all_goals (go_meet; refine ⟨⟨_, rfl, ?_⟩, rfl⟩; first | omega | (simp [ByteArray.size_extract]; omega))
  case rest =>
    obtain ⟨⟨s', rfl, hs'⟩, rfl⟩ := hcut
    clear hd hs
    go_upto_region 4 with fail
    go_cut [1] from 29 to 33 (fun v wx => (∃ n1 c1 : Nat, v = .slice A1 n1 c1 ∧ n1 ≤ 30 ∧ n1 ≤ len1) ∧ wx = wc)
    case first =>
      rcases hd1 with hd1 | hd1
      · go_wp2_with fail
        all_goals (go_meet; refine ⟨⟨_, _, rfl, ?_, ?_⟩, rfl⟩ <;> omega)
      · go_wp2_with fail
        all_goals (go_meet; refine ⟨⟨_, _, rfl, ?_, ?_⟩, rfl⟩ <;> omega)
    case rest =>
      obtain ⟨⟨n1, c1, rfl, hn1, hn1'⟩, rfl⟩ := hcut
      clear hd1
      go_upto_region 5 with fail
      go_cut [2] from 34 to 38 (fun v wx => (∃ n2 c2 : Nat, v = .slice A2 n2 c2 ∧ n2 ≤ 30 ∧ n2 ≤ len2) ∧ wx = wc)
      case first =>
        rcases hd2 with hd2 | hd2
        · go_wp2_with fail
          all_goals (go_meet; refine ⟨⟨_, _, rfl, ?_, ?_⟩, rfl⟩ <;> omega)
        · go_wp2_with fail
          all_goals (go_meet; refine ⟨⟨_, _, rfl, ?_, ?_⟩, rfl⟩ <;> omega)
      case rest =>
        obtain ⟨⟨n2, c2, rfl, hn2, hn2'⟩, rfl⟩ := hcut
        clear hd2
        have HG : Hid (TurnsAt w A1 n1 f ∧ MasksAt w A2 n2 g) := Lib.hid ⟨fun i hi => HF.out.1 i (by omega), fun i hi => HF.out.2 i (by omega)⟩
        clear HF hn1' hn2' h1 h1' h2 h2'
        go_wp2_with fail
        refine (sNew H1.out 8 (by decide)).mono ?_
        rintro e w2 ⟨rfl, h2'⟩
        have H2 := Lib.hid h2'
        clear h2'
        go_wp2_with fail
        refine (sNew H2.out 8 (by decide)).mono ?_
        rintro e w3 ⟨rfl, h3⟩
        simp only [List.nil_append, List.cons_append] at h3
        have H3 := Lib.hid h3
        clear h3 H1 H2
        generalize wc.heap.size = ba at *
        generalize w2.heap.size = bb at *
        go_wp2_with fail
        go_loopw [9] (fun p wr => ∃ k : Nat, k ≤ n1 ∧ p = .int .i64 k ∧ Sep w.heap.size w wr [AirT ba 8 [] (tsF f k), AirT bb 8 [] (tsF f k)])
          (fun p wr => n1 - (intOf p).toNat)
        case atStart => exact ⟨0, by omega, rfl, H3.out⟩
        case round =>
          obtain ⟨k, hkl, rfl, hS⟩ := hrel
          have HS := Lib.hid hS
          clear hS H3
          by_cases hlt : k < n1
          · obtain ⟨b, o, rfl, hbl, c0, c1, r0, r1⟩ := HG.out.1 k hlt
            have hsu := tsF_succ f k
            generalize (f k).1 = x at *
            generalize (f k).2 = y at *
            have HU := Lib.hid hsu
            clear hsu
            have g2 : decide ((k : Int) < (n1 : Int)) = true := by rw [decide_eq_true_iff]; omega
            go_wp2_with fail
            refine wp_region_sub [] (fun W' => Below w.heap.size w W') (by kernel_rfl) (by kernel_rfl) (HS.out.world.drew) (fun _ => ?_)
            iterate 17 (refine mix_read (by kernel_rfl) (by rfl) (by rfl) (by rfl) (of_decide_eq_true (by kernel_rfl)) ?_; apply Exists.intro; apply Exists.intro; refine ⟨fun w' hw' K hK => ?_, ?_, ?_⟩; (obtain ⟨X, rfl⟩ := hw'; go_wp2_with fail; first | exact ⟨rfl, rfl⟩ | exact rfl); rfl)
            refine mix_nil ?_
            go_wp2_with fail
            refine (sTurn (HS.out.below ((Below.refl _ _).drew)) 0 rfl ((x : Int) % 73) (1 + (y : Int) % 255) (by omega) (by omega) (by rw [tsF_len]; omega)).mono ?_
            rintro e w5 ⟨rfl, h5⟩
            have H5 := Lib.hid h5
            clear h5
            go_wp2_with fail
            refine (sTurn H5.out 1 rfl ((x : Int) % 73) (1 + (y : Int) % 255) (by omega) (by omega) (by rw [tsF_len]; omega)).mono ?_
            rintro e w6 ⟨rfl, h6⟩
            have H6 := Lib.hid h6
            clear h6
            go_wp2_with fail
            go_roundw
            case rel => exact ⟨k + 1, by omega, by go_num, by rw [HU.out]; exact H6.out⟩
            case measure => simp [intOf]; omega
          · obtain rfl : k = n1 := by omega
            have g2 : decide ((k : Int) < (k : Int)) = false := by rw [decide_eq_false_iff_not]; omega
            go_upto_region 15 with fail
            have HT := Lib.hid HS.out
            clear HS g2
            go_wp2_with fail
            go_loopw [12] (fun p wr => ∃ m : Nat, m ≤ n2 ∧ p = .int .i64 m ∧ Sep w.heap.size w wr [AirT ba 8 (msF g m) (tsF f k), AirT bb 8 [] (tsF f k)])
              (fun p wr => n2 - (intOf p).toNat)
            case atStart => exact ⟨0, by omega, rfl, HT.out⟩
            case round =>
              obtain ⟨m, hml, rfl, hS⟩ := hrel
              have HS := Lib.hid hS
              clear hS HT
              by_cases hlt : m < n2
              · obtain ⟨b, o, rfl, hbl, c0, r0⟩ := HG.out.2 m hlt
                have e0 := (HS.out.world.cell (p := ⟨b, o + m, none⟩) hbl).trans c0
                have hsu := msF_succ g m
                generalize g m = z at *
                have HU := Lib.hid hsu
                have g2 : decide ((m : Int) < (n2 : Int)) = true := by rw [decide_eq_true_iff]; omega
                have h28 : (2 : Int) ^ 8 = 256 := by decide
                have hz : (z : Int) < 2 ^ 8 := by rw [h28]; omega
                have HZ := Lib.hid hz
                clear h28 hz hsu c0
                go_wp2_with fail
                refine (sErase HS.out 0 rfl (by decide) (z : Int) (by omega) HZ.out (by rw [msF_len]; omega)).mono ?_
                rintro e w5 ⟨rfl, h5⟩
                have H5 := Lib.hid h5
                clear h5
                go_wp2_with fail
                go_roundw
                case rel => exact ⟨m + 1, by omega, by go_num, by rw [HU.out]; exact H5.out⟩
                case measure => simp [intOf]; omega
              · obtain rfl : m = n2 := by omega
                have g2 : decide ((m : Int) < (m : Int)) = false := by rw [decide_eq_false_iff_not]; omega
                go_upto_region 20 with fail
                have HT := Lib.hid HS.out
                clear HS g2
                go_wp2_with fail
                go_loopw [13] (fun p wr => ∃ i : Nat, i ≤ 31 ∧ p = .int .i64 i ∧ Sep w.heap.size w wr [AirT ba 8 ((msF g m).drop i) ((tsF f k).drop i), AirT bb 8 [] ((tsF f k).drop i)])
                  (fun p wr => 31 - (intOf p).toNat)
                case atStart => exact ⟨0, by omega, rfl, HT.out⟩
                case round =>
                  obtain ⟨i, hi45, rfl, hS⟩ := hrel
                  have HI := Lib.hid hS
                  clear hS HT
                  by_cases hi : i < 31
                  · obtain ⟨t, ht⟩ : ∃ t, passOut s' ((tsF f k).drop i) = t := ⟨_, rfl⟩
                    obtain ⟨x, hx⟩ : ∃ x, (if i < m then (g i : Int) else 0) = x := ⟨_, rfl⟩
                    have hbl : (!((tsF f k).drop i).isEmpty) = decide ((i : Int) < (k : Int)) := by
                      by_cases h : i < k
                      · rw [decide_eq_true (by omega)]
                        have : (tsF f k).drop i ≠ [] := by intro e; have := congrArg List.length e; simp [tsF_len] at this; omega
                        cases hh : (tsF f k).drop i with
                        | nil => exact absurd hh this
                        | cons a l => rfl
                      · rw [decide_eq_false (by omega), List.drop_eq_nil_of_le (by rw [tsF_len]; omega)]
                        rfl
                    have p1 := sPass HI.out 0 rfl (by simp [msF_len]; omega) (by simp [tsF_len]; omega) ((tsF_ok f k).drop i) s'
                    rw [ht, hbl, lost_at, hx, tail_drop, tail_drop] at p1
                    have P1 := Lib.hid p1
                    have htt : passOut t ((tsF f k).drop i) = s' := by rw [← ht]; exact passOut_twice _ _
                    have hsz : t.size = s'.size := by rw [← ht]; exact passOut_size _ _
                    have hfar : ∀ j, j < s'.size → (10 ≤ j ∨ k ≤ i ∨ (j : Int) < ((f i).1 : Int) % 73 / 8 ∨ ((f i).1 : Int) % 73 / 8 + 1 < (j : Int)) → t.data[j]? = s'.data[j]? := by
                      intro j hj hh
                      rw [← ht]
                      refine passOut_far _ _ j hj fun q hq => ?_
                      obtain ⟨q1, q2⟩ := turn_at f k i q hq
                      rw [q2]
                      omega
                    have HX := Lib.hid (And.intro htt (And.intro hsz (And.intro hfar (And.intro hx hbl))))
                    clear p1 ht hx htt hsz hfar hbl
                    go_wp2_with fail
                    refine P1.out.mono ?_
                    rintro e w5 ⟨rfl, h5⟩
                    have p2 := sPass h5 1 rfl (by simp) (by simp [tsF_len]; omega) ((tsF_ok f k).drop i) t
                    rw [HX.out.1, HX.out.2.2.2.2, tail_drop] at p2
                    have P2 := Lib.hid p2
                    clear p2 h5
                    go_wp2_with fail
                    refine P2.out.mono ?_
                    rintro e w6 ⟨rfl, h6⟩
                    have H6 := Lib.hid h6
                    clear h6
                    simp only [List.headD_nil]
                    have hme : (m : Int) ≤ i ∨ (i : Int) < m := by omega
                    rcases hme with hme | hme
                    · have hx0 : x = 0 := by rw [← HX.out.2.2.2.1, if_neg (by omega)]
                      subst hx0
                      have q1 : decide (i < m) = false := by rw [decide_eq_false_iff_not]; omega
                      have hsz := HX.out.2.1
                      go_upto_region 30 with fail
                      clear hsz
                      simp only [Int.ofNat_lt, q1]
                      generalize decide (i < k) = bk
                      go_wp2_with fail
                      go_loopw [21] (fun p wr => ∃ j : Nat, j ≤ s'.size ∧ p = .int .i64 j ∧ Sep w.heap.size w wr [AirT ba 8 ((msF g m).drop (i + 1)) ((tsF f k).drop (i + 1)), AirT bb 8 [] ((tsF f k).drop (i + 1))])
                        (fun p wr => s'.size - (intOf p).toNat)
                      case atStart => exact ⟨0, by omega, rfl, H6.out⟩
                      case round =>
                        obtain ⟨j, hjl, rfl, hSj⟩ := hrel
                        have HJ := Lib.hid hSj
                        clear hSj
                        by_cases hj : j < s'.size
                        · have hsz := HX.out.2.1
                          have hjt : j < t.size := by omega
                          clear hsz
                          have g1 : decide ((j : Int) < (s'.size : Int)) = true := by rw [decide_eq_true_iff]; omega
                          by_cases he : t[j] = s'[j]
                          · have hq : (((t[j]'hjt).toNat : Int) != ((s'[j]'hj).toNat : Int)) = false := by rw [he]; simp
                            have HE := Lib.hid he
                            clear he
                            go_upto_region 33 with fail
                            refine wp_region_sub [] (fun W' => Below w.heap.size w W') (by kernel_rfl) (by kernel_rfl) (HJ.out.world.drew) (fun _ => ?_)
                            iterate 8 (refine mix_read (by kernel_rfl) (by rfl) (by rfl) (by rfl) (of_decide_eq_true (by kernel_rfl)) ?_; apply Exists.intro; apply Exists.intro; refine ⟨fun w' hw' K hK => ?_, ?_, ?_⟩; (obtain ⟨X, rfl⟩ := hw'; go_wp2_with fail; first | exact ⟨rfl, rfl⟩ | exact rfl); rfl)
                            iterate 33 (refine mix_skip (by kernel_rfl) ?_; simp only [Act.put, List.setIfInBounds_toArray, List.set_cons_succ, List.set_cons_zero])
                            (refine mix_read (by kernel_rfl) (by rfl) (by rfl) (by rfl) (of_decide_eq_true (by kernel_rfl)) ?_; apply Exists.intro; apply Exists.intro; refine ⟨fun w' hw' K hK => ?_, ?_, ?_⟩; (obtain ⟨X, rfl⟩ := hw'; go_wp2_with fail; first | exact ⟨rfl, rfl⟩ | exact rfl); rfl)
                            refine mix_nil ?_
                            go_wp2_with fail
                            go_roundw
                            case rel => exact ⟨j + 1, by omega, by go_num, HJ.out.below ((Below.refl _ _).drew)⟩
                            case measure => simp [intOf]; omega
                          · have hq : (((t[j]'hjt).toNat : Int) != ((s'[j]'hj).toNat : Int)) = true := by
                              simp only [bne_iff_ne, ne_eq, Int.ofNat_inj]
                              intro e; exact he (UInt8.toNat_inj.1 e)
                            have hnn : ¬ (10 ≤ j ∨ k ≤ i ∨ (j : Int) < ((f i).1 : Int) % 73 / 8 ∨ ((f i).1 : Int) % 73 / 8 + 1 < (j : Int)) := fun h => he (by
                              have := HX.out.2.2.1 j hj h
                              have ha : t.data[j]? = some (t.data[j]'hjt) := Array.getElem?_eq_getElem _
                              have hb : s'.data[j]? = some (s'.data[j]'hj) := Array.getElem?_eq_getElem _
                              rw [ha, hb] at this
                              exact Option.some.inj this)
                            have hik : i < k := by omega
                            obtain ⟨b1, o1, rfl, hbl1, d0, _, r1, _⟩ := HG.out.1 i hik
                            have HE := Lib.hid he
                            generalize (f i).1 = y at *
                            have f1 : decide ((10 : Int) ≤ (j : Int)) = false := by rw [decide_eq_false_iff_not]; omega
                            have f1' : decide (10 ≤ j) = false := by rw [decide_eq_false_iff_not]; omega
                            have f2 : decide ((k : Int) ≤ (i : Int)) = false := by rw [decide_eq_false_iff_not]; omega
                            have f2' : decide (k ≤ i) = false := by rw [decide_eq_false_iff_not]; omega
                            have f3 : decide ((j : Int) < (y : Int) % 73 / 8) = false := by rw [decide_eq_false_iff_not]; omega
                            have f4 : decide ((y : Int) % 73 / 8 + 1 < (j : Int)) = false := by rw [decide_eq_false_iff_not]; omega
                            clear he hnn
                            go_upto_region 33 with fail
                            refine wp_region_sub [] (fun W' => Below w.heap.size w W') (by kernel_rfl) (by kernel_rfl) (HJ.out.world.drew) (fun _ => ?_)
                            iterate 42 (refine mix_read (by kernel_rfl) (by rfl) (by rfl) (by rfl) (of_decide_eq_true (by kernel_rfl)) ?_; apply Exists.intro; apply Exists.intro; refine ⟨fun w' hw' K hK => ?_, ?_, ?_⟩; (obtain ⟨X, rfl⟩ := hw'; go_wp2_with fail; first | exact ⟨rfl, rfl⟩ | exact rfl); rfl)
                            refine mix_nil ?_
                            go_wp2_with fail
                            go_roundw
                            case rel => exact ⟨j + 1, by omega, by go_num, HJ.out.below ((Below.refl _ _).drew)⟩
                            case measure => simp [intOf]; omega
                        · have g1 : decide ((j : Int) < (s'.size : Int)) = false := by rw [decide_eq_false_iff_not]; omega
                          go_wp2_with fail
                          go_roundw
                          case rel => exact ⟨i + 1, by omega, by go_num, HJ.out⟩
                          case measure => simp [intOf]; omega
                    · have hx0 : x = (g i : Int) := by rw [← HX.out.2.2.2.1, if_pos (by omega)]
                      subst hx0
                      obtain ⟨b, o, rfl, hbl, c0, r0⟩ := HG.out.2 i (by omega)
                      have e0 := (H6.out.world.cell (p := ⟨b, o + i, none⟩) hbl).trans c0
                      clear c0
                      have q1 : decide (i < m) = true := by rw [decide_eq_true_iff]; omega
                      have hsz := HX.out.2.1
                      go_upto_region 30 with fail
                      clear hsz
                      simp only [Int.ofNat_lt, q1]
                      generalize decide (i < k) = bk
                      go_wp2_with fail
                      go_loopw [21] (fun p wr => ∃ j : Nat, j ≤ s'.size ∧ p = .int .i64 j ∧ Sep w.heap.size w wr [AirT ba 8 ((msF g m).drop (i + 1)) ((tsF f k).drop (i + 1)), AirT bb 8 [] ((tsF f k).drop (i + 1))])
                        (fun p wr => s'.size - (intOf p).toNat)
                      case atStart => exact ⟨0, by omega, rfl, H6.out⟩
                      case round =>
                        obtain ⟨j, hjl, rfl, hSj⟩ := hrel
                        have HJ := Lib.hid hSj
                        clear hSj
                        by_cases hj : j < s'.size
                        · have hsz := HX.out.2.1
                          have hjt : j < t.size := by omega
                          clear hsz
                          have g1 : decide ((j : Int) < (s'.size : Int)) = true := by rw [decide_eq_true_iff]; omega
                          by_cases he : t[j] = s'[j]
                          · have hq : (((t[j]'hjt).toNat : Int) != ((s'[j]'hj).toNat : Int)) = false := by rw [he]; simp
                            have HE := Lib.hid he
                            clear he
                            go_upto_region 33 with fail
                            refine wp_region_sub [] (fun W' => Below w.heap.size w W') (by kernel_rfl) (by kernel_rfl) (HJ.out.world.drew) (fun _ => ?_)
                            iterate 8 (refine mix_read (by kernel_rfl) (by rfl) (by rfl) (by rfl) (of_decide_eq_true (by kernel_rfl)) ?_; apply Exists.intro; apply Exists.intro; refine ⟨fun w' hw' K hK => ?_, ?_, ?_⟩; (obtain ⟨X, rfl⟩ := hw'; go_wp2_with fail; first | exact ⟨rfl, rfl⟩ | exact rfl); rfl)
                            iterate 33 (refine mix_skip (by kernel_rfl) ?_; simp only [Act.put, List.setIfInBounds_toArray, List.set_cons_succ, List.set_cons_zero])
                            (refine mix_read (by kernel_rfl) (by rfl) (by rfl) (by rfl) (of_decide_eq_true (by kernel_rfl)) ?_; apply Exists.intro; apply Exists.intro; refine ⟨fun w' hw' K hK => ?_, ?_, ?_⟩; (obtain ⟨X, rfl⟩ := hw'; go_wp2_with fail; first | exact ⟨rfl, rfl⟩ | exact rfl); rfl)
                            refine mix_nil ?_
                            go_wp2_with fail
                            go_roundw
                            case rel => exact ⟨j + 1, by omega, by go_num, HJ.out.below ((Below.refl _ _).drew)⟩
                            case measure => simp [intOf]; omega
                          · have hq : (((t[j]'hjt).toNat : Int) != ((s'[j]'hj).toNat : Int)) = true := by
                              simp only [bne_iff_ne, ne_eq, Int.ofNat_inj]
                              intro e; exact he (UInt8.toNat_inj.1 e)
                            have hnn : ¬ (10 ≤ j ∨ k ≤ i ∨ (j : Int) < ((f i).1 : Int) % 73 / 8 ∨ ((f i).1 : Int) % 73 / 8 + 1 < (j : Int)) := fun h => he (by
                              have := HX.out.2.2.1 j hj h
                              have ha : t.data[j]? = some (t.data[j]'hjt) := Array.getElem?_eq_getElem _
                              have hb : s'.data[j]? = some (s'.data[j]'hj) := Array.getElem?_eq_getElem _
                              rw [ha, hb] at this
                              exact Option.some.inj this)
                            have hik : i < k := by omega
                            obtain ⟨b1, o1, rfl, hbl1, d0, _, r1, _⟩ := HG.out.1 i hik
                            have HE := Lib.hid he
                            generalize (f i).1 = y at *
                            have f1 : decide ((10 : Int) ≤ (j : Int)) = false := by rw [decide_eq_false_iff_not]; omega
                            have f1' : decide (10 ≤ j) = false := by rw [decide_eq_false_iff_not]; omega
                            have f2 : decide ((k : Int) ≤ (i : Int)) = false := by rw [decide_eq_false_iff_not]; omega
                            have f2' : decide (k ≤ i) = false := by rw [decide_eq_false_iff_not]; omega
                            have f3 : decide ((j : Int) < (y : Int) % 73 / 8) = false := by rw [decide_eq_false_iff_not]; omega
                            have f4 : decide ((y : Int) % 73 / 8 + 1 < (j : Int)) = false := by rw [decide_eq_false_iff_not]; omega
                            clear he hnn
                            go_upto_region 33 with fail
                            refine wp_region_sub [] (fun W' => Below w.heap.size w W') (by kernel_rfl) (by kernel_rfl) (HJ.out.world.drew) (fun _ => ?_)
                            iterate 42 (refine mix_read (by kernel_rfl) (by rfl) (by rfl) (by rfl) (of_decide_eq_true (by kernel_rfl)) ?_; apply Exists.intro; apply Exists.intro; refine ⟨fun w' hw' K hK => ?_, ?_, ?_⟩; (obtain ⟨X, rfl⟩ := hw'; go_wp2_with fail; first | exact ⟨rfl, rfl⟩ | exact rfl); rfl)
                            refine mix_nil ?_
                            go_wp2_with fail
                            go_roundw
                            case rel => exact ⟨j + 1, by omega, by go_num, HJ.out.below ((Below.refl _ _).drew)⟩
                            case measure => simp [intOf]; omega
                        · have g1 : decide ((j : Int) < (s'.size : Int)) = false := by rw [decide_eq_false_iff_not]; omega
                          go_wp2_with fail
                          go_roundw
                          case rel => exact ⟨i + 1, by omega, by go_num, HJ.out⟩
                          case measure => simp [intOf]; omega
                  · go_wp2_with fail
                    go_ret
                    exact ⟨rfl, HI.out.world⟩

end Go.Proofs.Ytgolelpncdadkaa
