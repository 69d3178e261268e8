/- Pass itself. -/
import Derived.Test.YtgolelpncdadkaaAirE
import Derived.StillTailTactics
import Derived.Deep.CutRange
import Derived.Deep.CutBlock
import Derived.Test.YtgolelpncdadkaaReg3
set_option linter.unusedSimpArgs false
set_option linter.unusedVariables false
namespace Go.Proofs.Ytgolelpncdadkaa
open Go.RowKit Go.Shelf
attribute [local go_sem] Oper.semAt_some
attribute [local irreducible] wpMix

/-- What comes of a frame, by the first turn. -/
def passOut (s : ByteArray) : List (Int × Int) → ByteArray
  | [] => s
  | t :: _ => ⟨((bitsUp t.2.toNat t.1.toNat 8).foldl flip1 s.data.toList).toArray⟩

theorem Pass_nil (s : ByteArray) (w : World) :
    Calls Try.prog 14 #[.pointer none, .string s] w fun e w' => e = .returned (.tuple #[.string s, .int .i64 0, .bool false]) ∧ w = w' := by
  refine calls_of_marks Try.func14 rfl ?_
  simp only [Try.ntmps14, List.size_toArray, List.length_cons, List.length_nil, Nat.reduceAdd, Nat.reduceSub, Array.replicate_succ, Array.replicate_zero, List.push_toArray, List.append_toArray, List.nil_append, List.cons_append]
  go_wp2_with fail
  refine marks_ret0 (results_tmp3 rfl _ _ _) ⟨rfl, rfl⟩

theorem xor_fin : ∀ (c : Fin 256) (r : Fin 8), Go.bits BinOp.xor IntKind.u8 (c.1 : Int) (128 / 2 ^ r.1) = (((UInt8.ofNat c.1) ^^^ (128 >>> UInt8.ofNat r.1)).toNat : Int) := by decide +kernel
theorem xor_test (c : UInt8) (x : Nat) : Go.bits BinOp.xor IntKind.u8 (c.toNat : Int) (128 / 2 ^ (x % 8)) = ((flipB c x).toNat : Int) := by
  have := xor_fin ⟨c.toNat, c.toNat_lt⟩ ⟨x % 8, Nat.mod_lt _ (by decide)⟩
  simpa [flipB] using this

/-- The turns' and masks' bounds. -/
def TurnsOk (ts : List (Int × Int)) : Prop := ∀ t ∈ ts, (0 ≤ t.1 ∧ t.1 ≤ 72) ∧ (1 ≤ t.2 ∧ t.2 ≤ 255)

set_option maxHeartbeats 1000000 in
theorem Pass_ok {F : Nat → Prop} {b n : Nat} {ms : List Int} {ts : List (Int × Int)} {w : World} (h : AirInv w F b n ms ts) (hlm : ms.length ≤ 4096) (hlt : ts.length ≤ 4096) (ht : TurnsOk ts) (s : ByteArray) :
    Calls Try.prog 14 #[.pointer (some ⟨b, 0, none⟩), .string s] w fun e w' =>
      e = .returned (.tuple #[.string (passOut s ts), .int .i64 (ms.headD 0), .bool (!ts.isEmpty)]) ∧ AirInv w' F b n ms.tail ts.tail ∧ But (fun k => k = b) w.heap.size w w' := by
  have hbs : b < w.heap.size := by obtain ⟨v1, v2, hB, _⟩ := h; exact hB.lt
  obtain ⟨x, hx⟩ : ∃ x, ms.headD 0 = x := ⟨_, rfl⟩
  obtain ⟨x1, hx1⟩ : ∃ x, (!ms.isEmpty) = x := ⟨_, rfl⟩
  have tk := take_mask_air h hlm
  rw [hx, hx1] at tk
  rw [hx]
  have TK := Lib.hid tk
  have HM := Lib.hid hlt
  clear h hlm hlt tk hx hx1
  refine calls_of_marks Try.func14 rfl ?_
  simp only [Try.ntmps14, List.size_toArray, List.length_cons, List.length_nil, Nat.reduceAdd, Nat.reduceSub, Array.replicate_succ, Array.replicate_zero, List.push_toArray, List.append_toArray, List.nil_append, List.cons_append]
  go_wp2_with fail
  refine TK.out.mono ?_
  rintro e w1 ⟨rfl, h1, hb1⟩
  have H1 := Lib.hid (And.intro h1 hb1)
  have hle1 := hb1.size
  clear h1 hb1
  go_wp2_with fail
  refine (take_turn_air H1.out.1 HM.out).mono ?_
  rintro e w2 ⟨rfl, h2, hb2⟩
  have hb02 : But (fun k => k = b) w.heap.size w w2 := H1.out.2.trans (hb2.mono hle1 (fun _ _ h => h))
  have H2 := Lib.hid (And.intro h2 hb02)
  have hle2 := hb02.size
  clear h2 hb2 hb02
  cases ts with
  | nil =>
    go_wp2_with fail
    refine marks_ret0 (results_tmp3 rfl _ _ _) ⟨rfl, ?_, ?_⟩
    · exact H2.out.1.below ((Below.refl _ _).alloc (Nat.le_refl _) _)
    · exact H2.out.2.trans (.of_below ((Below.refl _ _).alloc hle2 _))
  | cons t tl =>
    obtain ⟨at_, m⟩ := t
    go_upto_region 7 with fail
    generalize hW3 : World.alloc _ _ = W3
    have z7 : Blk W3 w2.heap.size 56 #[.int .i64 at_, .int .i64 m] := by rw [← hW3]; exact Blk.new _ _ _
    have b3 : Below w2.heap.size w2 W3 := by rw [← hW3]; exact (Below.refl _ _).alloc (Nat.le_refl _) _
    have hs3 : W3.heap.size = w2.heap.size + 1 := by rw [← hW3]; simp
    clear hW3
    obtain ⟨cap, hcap⟩ : ∃ cap, grownCap W3 s.size 0 5 = cap := ⟨_, rfl⟩
    have hcv := run_bytes_of_string (P := Try.prog) W3 9 37 5 s Try.underlying9 Try.underlying37 Try.underlying5
    rw [hcap] at hcv
    have z9 := BytesAt.of_string W3.drew s cap 5
    generalize hC : bytesRow s cap = C at *
    have Z9 := Lib.hid (And.intro z9 (And.intro z7 (And.intro b3 hs3)))
    clear z9 z7 b3 hs3 hC hcap
    go_upto_region 8 with fail
    generalize hW4 : World.drew _ = W4
    have hs4 : W4.heap.size = w2.heap.size + 3 := by rw [← hW4]; simp [Z9.out.2.2.2]
    have z9 : Blk W4 (w2.heap.size + 2) 37 #[.slice (some ⟨w2.heap.size + 1, 0, none⟩) s.size cap] := by
      rw [← hW4]; have := Z9.out.2.2.2; simp only [this]; exact (Blk.new _ _ _).same_g (by simp; omega)
    have z8 : BytesAt W4 (w2.heap.size + 1) s.data.toList := by
      have e := Z9.out.2.2.2
      have := Z9.out.1
      rw [← hW4]
      simp only [World.size_drew, e] at this
      exact this.keep (Below.heap_alloc _ _ _ (by simp; omega))
    have z7 : Blk W4 w2.heap.size 56 #[.int .i64 at_, .int .i64 m] := by rw [← hW4]; exact ((Z9.out.2.1).alloc _).alloc _
    have b4 : Below w2.heap.size w2 W4 := by
      rw [← hW4]; have := Z9.out.2.2.2
      exact (((Z9.out.2.2.1).alloc (by omega) _).alloc (by simp; omega) _).drew
    have e3 := Z9.out.2.2.2
    clear hW4 hcv
    simp only [e3, Nat.add_assoc, Nat.reduceAdd]
    clear e3 Z9
    have d0 := z7.cell 0
    have d1 := z7.cell 1
    have Z := Lib.hid (And.intro z7 (And.intro z8 (And.intro z9 (And.intro b4 hs4))))
    clear z7 z8 z9 b4 hs4
    go_wp2_with fail
    refine (bits_any _ _ _).mono ?_
    rintro e w' ⟨rfl, rfl⟩
    go_wp2_with fail
    obtain ⟨⟨hat1, hat2⟩, hm1, hm2⟩ := ht (at_, m) (by simp)
    obtain ⟨a, rfl⟩ : ∃ a : Nat, (a : Int) = at_ := ⟨at_.toNat, Int.toNat_of_nonneg hat1⟩
    obtain ⟨k, rfl⟩ : ∃ k : Nat, (k : Int) = m := ⟨m.toNat, Int.toNat_of_nonneg (by omega)⟩
    simp only at hat1 hat2 hm1 hm2
    generalize hW5 : World.alloc _ _ = W5
    have hs5 : W5.heap.size = w2.heap.size + 4 := by rw [← hW5]; simp [Z.out.2.2.2.2]
    have y8 : BytesAt W5 (w2.heap.size + 1) s.data.toList := by rw [← hW5]; exact Z.out.2.1.keep (Below.heap_alloc _ _ _ Z.out.2.1.lt)
    have y9 : Blk W5 (w2.heap.size + 2) 37 #[.slice (some ⟨w2.heap.size + 1, 0, none⟩) s.size cap] := by rw [← hW5]; exact Z.out.2.2.1.alloc _
    have y3 : Blk W5 (w2.heap.size + 3) 56 #[.int .i64 a, .int .i64 k] := by rw [← hW5]; exact (Blk.new _ _ _).same_g (by simp [Z.out.2.2.2.2])
    have b5 : Below w2.heap.size w2 W5 := by rw [← hW5]; exact Z.out.2.2.2.1.alloc (by have := Z.out.2.2.2.2; omega) _
    have e4 := Z.out.2.2.2.2
    rw [e4]
    clear hW5 d0 d1 Z e4
    refine' wp_range_plain (encs := fun (x : Nat) => #[.int .i64 (x : Int)]) (n0 := w2.heap.size) (T := (· = w2.heap.size + 3)) (xs := bitsUp k a 8) rfl (enters_of Try.func27 (by kernel_rfl) rfl)
      (bits1_iter (w2.heap.size + 3) w2.heap.size a k (by omega) (by omega) W5 y3 (by omega)) (by omega) (by rintro k rfl; omega) (fun _ => rfl)
      (fun pre W => Below w2.heap.size w2 W ∧ BytesAt W (w2.heap.size + 1) (pre.foldl flip1 s.data.toList) ∧ Blk W (w2.heap.size + 2) 37 #[.slice (some ⟨w2.heap.size + 1, 0, none⟩) s.size cap])
      (fun _ _ _ => False) _ ?hI (fun _ _ _ _ h _ => h) ?h0 ?assign ?body ?done (fun _ _ _ _ h => h.elim)
    case hI =>
      refine (Ign.below (by omega) (by intro k hk; omega)).and (.and (.bytes ?_) (.blk ?_)) <;> (intro _; omega)
    case h0 => exact ⟨b5, y8, y9⟩
    case assign =>
      intro l x W K hK
      gi_wp2
      exact hK
    case body =>
      rintro l pre x W hpre ⟨hb, k8, k9⟩ hsz
      have hx : x < a + 8 := bitsUp_lt k a 8 x (hpre.subset (by simp))
      have hlen := flips_len pre s.data.toList
      rw [show s.data.toList.length = s.size from Array.length_toList] at hlen
      have c9 := k9.cell 0
      have HX := Lib.hid (And.intro hb (And.intro k8 (And.intro k9 hsz)))
      have hfold : (pre ++ [x]).foldl flip1 s.data.toList = flip1 (pre.foldl flip1 s.data.toList) x := by simp [List.foldl_append]
      have HF := Lib.hid hfold
      have HS5 := Lib.hid hs5
      clear hb k8 k9 hfold hsz b5 y8 y9 y3 hs5 ht
      generalize pre.foldl flip1 s.data.toList = bs at *
      by_cases hlt : x / 8 < s.size
      · have g : decide ((x : Int) / 8 < (s.size : Int)) = true := by rw [decide_eq_true_iff]; omega
        have f := HX.out.2.1.frozen (x / 8) (by omega)
        obtain ⟨c, q, hset⟩ : ∃ c : UInt8, W.cell? ⟨w2.heap.size + 1, x / 8, none⟩ = some (.int .u8 (c.toNat : Int)) ∧ flip1 bs x = bs.set (x / 8) (flipB c x) :=
          ⟨_, HX.out.2.1.cell (x / 8) (by omega), by rw [flip1, dif_pos (by omega)]⟩
        have HL := Lib.hid (And.intro hlen (And.intro hlt hset))
        clear hlen hlt hset
        have hl1 := HX.out.2.1.lt
        have hl2 := HX.out.2.2.1.lt
        have hi0 : (0 : Int) ≤ (x : Int) / 8 := by omega
        have hi1 : (x : Int) / 8 < (s.size : Int) := of_decide_eq_true g
        gi_wp2
        refine wpIn_region_sub [10] (fun W' => Below W.heap.size W W') (by kernel_rfl) (by kernel_rfl) ((Below.refl _ _).drew) (fun _ => ?_)
        iterate 10 (refine mix_read (by kernel_rfl) (by rfl) (by rfl) (by rfl) (of_decide_eq_true (by kernel_rfl)) ?_; apply Exists.intro; apply Exists.intro; refine ⟨fun w' hw' K hK => ?_, ?_, ?_⟩; (obtain ⟨X, rfl⟩ := hw'; go_wp2_with fail; first | exact ⟨rfl, rfl⟩ | exact rfl); rfl)
        (refine mix_last (by rfl) (by rfl) (by kernel_rfl) (fun K hK => ?_))
        go_wp2_with fail
        rw [xor_test c x]
        refine ⟨(Keep.setCell (p := ⟨w2.heap.size + 1, x / 8, none⟩) _ (by simp) (by have := HS5.out; simp; omega) _).trans (Keep.drew _ _ _), (HX.out.1.setCell (p := ⟨w2.heap.size + 1, x / 8, none⟩) (by simp) _).drew, ?_, (HX.out.2.2.1.far (p := ⟨w2.heap.size + 1, x / 8, none⟩) (by simp) _)⟩
        rw [HF.out, HL.out.2.2]
        exact HX.out.2.1.set_ (x / 8) (by have := HL.out.1; have := HL.out.2.1; omega) (flipB c x)
      · have g : decide ((x : Int) / 8 < (s.size : Int)) = false := by rw [decide_eq_false_iff_not]; omega
        gi_wp2
        refine ⟨Keep.refl _ _ _, HX.out.1, ?_, HX.out.2.2.1⟩
        rw [HF.out, flip1, dif_neg (by omega)]
        exact HX.out.2.1
    case done =>
      rintro W ⟨hb, k8, k9⟩ hK
      have c9 := k9.cell 0
      have hlen := flips_len (bitsUp k a 8) s.data.toList
      rw [show s.data.toList.length = s.size from Array.length_toList] at hlen
      have hcv := run_convert_bytes_back (P := Try.prog) W 37 9 5 ⟨w2.heap.size + 1, 0, none⟩ cap ((bitsUp k a 8).foldl flip1 s.data.toList) Try.underlying37 Try.underlying5 Try.underlying9
        (fun j hj => by
          have := k8.cell j hj
          simp only [Addr.add, Nat.zero_add]
          split
          · rename_i e; simp only [e] at this ⊢; exact this
          · exact this)
      rw [hlen] at hcv
      obtain ⟨R, hR⟩ : ∃ R : ByteArray, (⟨((bitsUp k a 8).foldl flip1 s.data.toList).toArray⟩ : ByteArray) = R := ⟨_, rfl⟩
      rw [hR] at hcv
      have HR := Lib.hid hR
      have HB := Lib.hid (And.intro hb (And.intro hK hs5))
      clear hR hlen hb hK k8 k9 hs5 y8 y9 y3 b5 ht
      go_wp2_with fail
      have hpo : passOut s (((a : Int), (k : Int)) :: tl) = R := by rw [← HR.out]; simp [passOut]
      rw [hpo]
      have hD := heap_lt HB.out.2.1
      refine marks_ret1 HB.out.2.1 (results_tmp3 rfl _ _ _) ⟨rfl, ?_, ?_⟩
      all_goals
        have hbD : Below w2.heap.size w2 (W.putObj W5.heap.size (.deferred none)) := (But.putObj (S := fun _ => False) (.of_below HB.out.1) _ (fun h => by have := HB.out.2.2; omega)).below (fun _ _ h => h) (Nat.le_refl _)
      · exact H2.out.1.below hbD
      · exact H2.out.2.trans ((But.of_below hbD).mono hle2 (fun _ _ h => h))

end Go.Proofs.Ytgolelpncdadkaa
