/- The reference's Pass. -/
import Derived.Test.YtgolelpncdadkaaAirO
import Derived.Test.YtgolelpncdadkaaAirF
import Derived.Deep.CutRange
import Derived.Deep.CutBlock
set_option linter.unusedSimpArgs false
set_option linter.unusedVariables false
namespace Go.Proofs.Ytgolelpncdadkaa
open Go.RowKit Go.Shelf
attribute [local irreducible] wpMix

set_option maxRecDepth 100000 in
set_option maxHeartbeats 4000000 in
theorem RefPass_ok {F : Nat → Prop} {b n : Nat} {ms : List Int} {ts : List (Int × Int)} {w : World} (h : RefInv w F b n ms ts) (hlm : ms.length ≤ 4096) (hlt : ts.length ≤ 4096) (ht : TurnsOk ts) (s : ByteArray) :
    Calls Try.prog 15 #[.pointer (some ⟨b, 0, none⟩), .string s] w fun e w' =>
      e = .returned (.tuple #[.string (passOut s ts), .int .i64 (ms.headD 0), .bool (!ts.isEmpty)]) ∧ RefInv w' F b n ms.tail ts.tail ∧ But (fun k => k = b) w.heap.size w w' := by
  obtain ⟨x, hx⟩ : ∃ x, ms.headD 0 = x := ⟨_, rfl⟩
  rw [hx]
  have HX := Lib.hid hx
  have H := Lib.hid h
  obtain ⟨v1, v2, hB, h1, h2, n1, n2, n3, hF⟩ := h
  obtain ⟨A, cap, rfl, hcap⟩ := h1.len
  have c1 := hB.cell 1
  have f1 := hB.frozen 1
  have hlb := hB.lt
  have HB := Lib.hid (And.intro hB (And.intro h1 (And.intro h2 (And.intro n1 (And.intro n2 (And.intro n3 hF))))))
  clear hx hB h1 h2 n1 n2 n3 hF
  go_enter Try.func15, Try.ntmps15
  go_upto_if 17 with fail
  go_cut [7] from 12 to 31 (fun v wx => v = .int .i64 x ∧ RefInv wx F b n ms.tail ts ∧ But (fun k => k = b) w.heap.size w wx)
  case first =>
    cases ms with
    | nil =>
      go_wp2_with fail
      all_goals (go_meet; exact ⟨by rw [← HX.out]; rfl, H.out, But.refl _ _ _⟩)
    | cons y l =>
      obtain ⟨g, off, cp, hv, htl⟩ := HB.out.2.1.tail
      cases hv
      have d0 := HB.out.2.1.cell 0 _ rfl
      rw [Nat.add_zero] at d0
      have hcl : l.length ≤ cp := by simp at hcap; omega
      have hn0 : decide ((0 : Int) < ((l.length + 1 : Nat) : Int)) = true := by rw [decide_eq_true_iff]; omega
      have HT := Lib.hid htl
      clear htl
      go_wp2_with (first
        | (refine wpList_tail rfl (size := 1) 42 3 (.tmp 28) (.const (.int .i64 1)) rfl rfl rfl hcl Try.underlying42 (by kernel_rfl) ?_; obtain ⟨A', hA'⟩ := tailV_slice g off l.length cp 1; rw [hA']; have HA := Lib.hid hA'; clear hA'))
      all_goals (try (exfalso; rename_i hh; simp at hh; done))
      all_goals
        go_meet
        have hbt : But (fun k => k = b) w.heap.size w (w.setCell ⟨b, 1, none⟩ (.slice A' l.length cp)) := (But.refl (fun k => k = b) w.heap.size w).setCell (p := ⟨b, 1, none⟩) (fun _ => rfl) _
        have hown : (Value.slice A' l.length cp).ownBlock = some g := by rw [← HA.out]; exact tailV_own _ _ _ _ _
        obtain ⟨hB, h1, h2, n1, n2, n3, hF⟩ := HB.out
        have h1' := HT.out
        rw [HA.out] at h1'
        refine ⟨by rw [← HX.out]; rfl, ⟨_, v2, hB.set_ 1 _, h1'.keep fun k hk => Below.heap_setCell _ _ _ _ (by rw [hown] at hk; rintro rfl; exact n1 hk), h2.but hbt (fun k hk => ⟨(h2.lt k hk).2, fun e => n2 (e ▸ hk)⟩), ?_, n2, ?_, ?_⟩, hbt⟩
        · rw [hown]; exact n1
        · rw [hown]; exact n3
        · rw [hown]; exact hF
  case rest =>
    obtain ⟨rfl, hI, hb⟩ := hcut
    have hle := hb.size
    have HI := Lib.hid (And.intro hI hb)
    obtain ⟨v1, v3, hB, h1, h2, n1, n2, n3, hF⟩ := hI
    obtain ⟨A2, cap2, rfl, hcap2⟩ := h2.len
    have e2 := hB.cell 2
    have g2 := hB.frozen 2
    have hlb2 := hB.lt
    have HB2 := Lib.hid (And.intro hB (And.intro h1 (And.intro h2 (And.intro n1 (And.intro n2 (And.intro n3 hF))))))
    clear hb hB h1 h2 n1 n2 n3 hF H c1 f1 hlb HX HB hcap
    cases ts with
    | nil =>
      go_wp2_with fail
      go_ret3
      exact ⟨rfl, HI.out.1, HI.out.2⟩
    | cons t tl =>
      obtain ⟨at_, m⟩ := t
      obtain ⟨g, off, cp, hv, htl⟩ := HB2.out.2.2.1.tail
      cases hv
      have d0 := HB2.out.2.2.1.cell 0 _ rfl
      have d1 := HB2.out.2.2.1.cell 1 _ rfl
      rw [Nat.add_zero] at d0
      have hcl : tl.length ≤ cp := by simp at hcap2; omega
      have HT := Lib.hid htl
      clear htl
      go_upto_region 9 with (first
        | (refine wpList_tail rfl (size := 2) 50 57 (.tmp 50) (.const (.int .i64 1)) rfl rfl rfl hcl Try.underlying50 (by kernel_rfl) ?_; obtain ⟨A', hA'⟩ := tailV_slice g off tl.length cp 2; rw [hA']; have HA := Lib.hid hA'; clear hA'))
      generalize hW3 : World.alloc _ _ = W3
      have hown : (Value.slice A' tl.length cp).ownBlock = some g := by rw [← HA.out]; exact tailV_own _ _ _ _ _
      have hbt : But (fun k => k = b) wc.heap.size wc (wc.setCell ⟨b, 2, none⟩ (.slice A' tl.length cp)) := (But.refl (fun k => k = b) wc.heap.size wc).setCell (p := ⟨b, 2, none⟩) (fun _ => rfl) _
      have hI3 : RefInv W3 F b n ms.tail tl := by
        obtain ⟨hB, h1, h2, n1, n2, n3, hF⟩ := HB2.out
        have h1' := HT.out
        rw [HA.out] at h1'
        have hI2 : RefInv (wc.setCell ⟨b, 2, none⟩ (.slice A' tl.length cp)) F b n ms.tail tl := by
          refine ⟨v1, _, hB.set_ 2 _, h1.but hbt (fun k hk => ⟨(h1.lt k hk).2, fun e => n1 (e ▸ hk)⟩), h1'.keep fun k hk => Below.heap_setCell _ _ _ _ (by rw [hown] at hk; rintro rfl; exact n2 hk), n1, ?_, ?_, ?_⟩
          · rw [hown]; exact n2
          · rw [hown]; exact n3
          · rw [hown]; exact hF
        rw [← hW3]
        exact hI2.but (S := fun _ => False) (But.of_below ((Below.refl _ _).alloc (Nat.le_refl _) _)) (fun _ _ h => h)
      have b3 : But (fun k => k = b) wc.heap.size wc W3 := by rw [← hW3]; exact hbt.alloc (by simp [World.setCell]) _
      have z8 : Blk W3 wc.heap.size 57 #[.int .i64 at_, .int .i64 m] := by rw [← hW3]; exact (Blk.new _ _ _).same_g (by simp [World.setCell])
      have hs3 : W3.heap.size = wc.heap.size + 1 := by rw [← hW3]; simp [World.setCell]
      have I3 := Lib.hid (And.intro hI3 (HI.out.2.trans (b3.mono hle (fun _ _ h => h))))
      clear hW3 hI3 b3 hbt hown d0 d1 e2 g2 HB2 HT HA HI hcap2
      obtain ⟨cap, hcap⟩ : ∃ cap, grownCap W3 s.size 0 5 = cap := ⟨_, rfl⟩
      have hcv := run_bytes_of_string (P := Try.prog) W3 9 37 5 s Try.underlying9 Try.underlying37 Try.underlying5
      rw [hcap] at hcv
      have z9 := BytesAt.of_string W3.drew s cap 5
      generalize hC : bytesRow s cap = C at *
      have Z := Lib.hid (And.intro z8 (And.intro z9 hs3))
      clear z8 z9 hC hcap
      go_upto_if 57 with fail
      generalize hW4 : World.drew _ = W4
      have e3 := Z.out.2.2
      have y9 : BytesAt W4 (wc.heap.size + 1) s.data.toList := by
        have := Z.out.2.1
        simp only [World.size_drew, e3] at this
        rw [← hW4]; exact this
      have y8 : Blk W4 wc.heap.size 57 #[.int .i64 at_, .int .i64 m] := by rw [← hW4]; exact (Z.out.1.alloc _).drew
      have b4 : Below W3.heap.size W3 W4 := by rw [← hW4]; exact ((Below.refl _ _).alloc (Nat.le_refl _) _).drew
      obtain ⟨⟨hat1, hat2⟩, hm1, hm2⟩ := ht (at_, m) (by simp)
      obtain ⟨a, rfl⟩ : ∃ a : Nat, (a : Int) = at_ := ⟨at_.toNat, Int.toNat_of_nonneg hat1⟩
      obtain ⟨k, rfl⟩ : ∃ k : Nat, (k : Int) = m := ⟨m.toNat, Int.toNat_of_nonneg (by omega)⟩
      simp only at hat1 hat2 hm1 hm2
      have hk256 : k < 256 := by omega
      have ha72 : a ≤ 72 := by omega
      have E3 := Lib.hid e3
      clear hW4 hcv Z e3 ht hat1 hat2 hm1 hm2 hlm hlt hle hlb2
      go_loopg [10] 8 (fun gk p wr => ∃ i : Nat, i ≤ 8 ∧ 8 - i = gk ∧ p = .int .i64 i ∧ Below W3.heap.size W3 wr ∧ Blk wr wc.heap.size 57 #[.int .i64 a, .int .i64 k] ∧ BytesAt wr (wc.heap.size + 1) ((bitsUp k a i).foldl flip1 s.data.toList))
      case atStart => exact ⟨0, by omega, rfl, rfl, b4, y8, y9⟩
      case round =>
        obtain ⟨i, hi8, rfl, rfl, hb, k8, k9⟩ := hrel
        have hlen := flips_len (bitsUp k a i) s.data.toList
        rw [show s.data.toList.length = s.size from Array.length_toList] at hlen
        have d0 := k8.cell 0
        have d1 := k8.cell 1
        have l8 := k8.lt
        have HX := Lib.hid (And.intro hb (And.intro k8 k9))
        clear hb k8 k9 y8 y9 b4
        by_cases hc : i < 8
        · have hbt : (((k : Int) / 2 ^ i).tmod 2 == 1) = decide (k / 2 ^ i % 2 = 1) := by
            have e : ((k : Int) / 2 ^ i).tmod 2 = ((k / 2 ^ i % 2 : Nat) : Int) := by
              rw [Int.tmod_eq_emod_of_nonneg (Int.ediv_nonneg (by omega) (Int.pow_nonneg (by omega)))]; push_cast; rfl
            rw [Bool.eq_iff_iff, beq_iff_eq, decide_eq_true_iff, e]
            generalize k / 2 ^ i % 2 = z
            omega
          have hi0 : (0 : Int) ≤ ((a : Int) + (i : Int)) / 8 := by omega
          have hcd : decide ((i : Int) < 8) = true := by rw [decide_eq_true_iff]; omega
          by_cases hbit : k / 2 ^ i % 2 = 1
          · have hflip : (bitsUp k a (i + 1)).foldl flip1 s.data.toList = flip1 ((bitsUp k a i).foldl flip1 s.data.toList) (a + i) := by
              rw [bitsUp, if_pos hbit, List.foldl_append]; rfl
            have HF := Lib.hid hflip
            clear hflip
            generalize (bitsUp k a i).foldl flip1 s.data.toList = bs at *
            rw [decide_eq_true hbit] at hbt
            by_cases hlt : (a + i) / 8 < s.size
            · have g : decide (((a : Int) + (i : Int)) / 8 < (s.size : Int)) = true := by rw [decide_eq_true_iff]; omega
              have f := HX.out.2.2.frozen ((a + i) / 8) (by omega)
              obtain ⟨c, q, hset⟩ : ∃ c : UInt8, wr.cell? ⟨wc.heap.size + 1, (a + i) / 8, none⟩ = some (.int .u8 (c.toNat : Int)) ∧ flip1 bs (a + i) = bs.set ((a + i) / 8) (flipB c (a + i)) :=
                ⟨_, HX.out.2.2.cell ((a + i) / 8) (by omega), by rw [flip1, dif_pos (by omega)]⟩
              have l9 := HX.out.2.2.lt
              have HL := Lib.hid (And.intro hlen (And.intro hlt hset))
              clear hlen hlt hset
              have hi1 : ((a : Int) + (i : Int)) / 8 < (s.size : Int) := of_decide_eq_true g
              go_upto_region 15 with fail
              obtain ⟨x', hx'⟩ : ∃ x', a + i = x' := ⟨_, rfl⟩
              have ex : (a : Int) + (i : Int) = (x' : Int) := by omega
              rw [ex]
              rw [ex] at hi0 hi1 g
              rw [hx'] at f q HL HF
              have hxb : x' < 80 := by omega
              have HE := Lib.hid hx'
              clear ex hx' d0 d1 hbt hk256 ha72
              refine wp_region_sub [13] (fun W' => Below wr.heap.size wr W') (by kernel_rfl) (by kernel_rfl) ((Below.refl _ _).drew) (fun _ => ?_)
              iterate 13 (refine mix_read (by kernel_rfl) (by rfl) (by rfl) (by rfl) (of_decide_eq_true (by kernel_rfl)) ?_; apply Exists.intro; apply Exists.intro; refine ⟨fun w' hw' K hK => ?_, ?_, ?_⟩; (obtain ⟨X, rfl⟩ := hw'; go_wp2_with fail; first | exact ⟨rfl, rfl⟩ | exact rfl); rfl)
              (refine mix_last (by rfl) (by rfl) (by kernel_rfl) (fun K hK => ?_))
              go_wp2_with fail
              rw [xor_test c x']
              go_roundg (8 - (i + 1))
              case measure => omega
              case rel =>
                refine ⟨i + 1, by omega, rfl, by go_num, (HX.out.1.setCell (p := ⟨wc.heap.size + 1, x' / 8, none⟩) (by have := hs3; simp; omega) _).drew, (HX.out.2.1.far (p := ⟨wc.heap.size + 1, x' / 8, none⟩) (by simp) _), ?_⟩
                rw [HF.out, HL.out.2.2]
                exact HX.out.2.2.set_ (x' / 8) (by have := HL.out.1; have := HL.out.2.1; omega) (flipB c x')
            · have g : decide (((a : Int) + (i : Int)) / 8 < (s.size : Int)) = false := by rw [decide_eq_false_iff_not]; omega
              go_wp2_with fail
              go_roundg (8 - (i + 1))
              case measure => omega
              case rel => exact ⟨i + 1, by omega, rfl, by go_num, HX.out.1, HX.out.2.1, by rw [HF.out, flip1, dif_neg (by omega)]; exact HX.out.2.2⟩
          · rw [decide_eq_false hbit] at hbt
            go_wp2_with fail
            go_roundg (8 - (i + 1))
            case measure => omega
            case rel => exact ⟨i + 1, by omega, rfl, by go_num, HX.out.1, HX.out.2.1, by rw [bitsUp, if_neg hbit, List.append_nil]; exact HX.out.2.2⟩
        · obtain rfl : i = 8 := by omega
          have hcv := run_convert_bytes_back (P := Try.prog) wr 37 9 5 ⟨wc.heap.size + 1, 0, none⟩ cap ((bitsUp k a 8).foldl flip1 s.data.toList) Try.underlying37 Try.underlying5 Try.underlying9
            (fun j hj => by
              have := HX.out.2.2.cell j hj
              simp only [Addr.add, Nat.zero_add]
              split
              · rename_i e; simp only [e] at this ⊢; exact this
              · exact this)
          rw [hlen] at hcv
          obtain ⟨R, hR⟩ : ∃ R : ByteArray, (⟨((bitsUp k a 8).foldl flip1 s.data.toList).toArray⟩ : ByteArray) = R := ⟨_, rfl⟩
          rw [hR] at hcv
          have HR := Lib.hid (And.intro hR hs3)
          clear hR hs3 hlen d0 d1
          go_wp2_with fail
          go_ret3
          have hpo : passOut s (((a : Int), (k : Int)) :: tl) = R := by rw [← HR.out.1]; simp [passOut]
          rw [hpo]
          exact ⟨rfl, I3.out.1.but (S := fun _ => False) (But.of_below HX.out.1) (fun _ _ h => h), I3.out.2.trans ((But.of_below HX.out.1).mono (I3.out.2.size) (fun _ _ h => h))⟩

end Go.Proofs.Ytgolelpncdadkaa
