/- Lists given and accepted, made of bytes. -/
import Derived.Test.YtkpfebgmfkaglaaSpF
set_option linter.unusedSimpArgs false
set_option linter.unusedVariables false
namespace Go.Proofs.Ytkpfebgmfkaglaa
open Go.RowKit
attribute [local irreducible] wpMix

def cS : ByteArray := ⟨#[99]⟩
def gvOf (x : ByteArray) : Gv := if x = cS then (1, 2, x) else (0, 0, x)
/-- The packets of a list, from a number on. -/
def pksOf (l : List Gv) : Nat → List Pk := fun n => (l.zipIdx n).map fun p => (((p.2 + 1 : Nat) : Int), p.1, 0)
theorem pksOf_gv (l : List Gv) (n : Nat) : (pksOf l n).map (·.2.1) = l := by
  unfold pksOf
  rw [List.map_map]
  exact List.zipIdx_map_fst n l
theorem pksOf_len (l : List Gv) (n : Nat) : (pksOf l n).length = l.length := by simp [pksOf]

theorem cS_list : cS.toList = [99] := by rw [ByteArray.toList_eq]; rfl
theorem gv_info : (Try.prog.info? 35).map (fun i => (i.zero, i.size, i.bytes)) = some (some (.agg #[.int .i64 0, .int .i64 0, .string ByteArray.empty]), 3, 32) := by kernel_rfl

set_option maxRecDepth 100000 in
set_option maxHeartbeats 2000000 in
theorem given_ok (v : Value) (xs : List ByteArray) (w : World) (hv : SlAt w 1 v xs.length (strs xs)) (hn : xs.length ≤ 1000000) :
    Calls Try.prog 15 #[v] w fun e w' => Below w.heap.size w w' ∧ ∃ v', e = .returned v' ∧ SlAt w' 3 v' (xs.map gvOf).length ((xs.map gvOf).flatMap gC) := by
  obtain ⟨A, cap, rfl, hc, hm⟩ := hv.len
  unfold maxLen at hm
  have HV := Lib.hid hv
  clear hv
  go_enter Try.func15, Try.ntmps15
  go_wp2_with fail
  go_loopg [3, 4] xs.length (fun gk q p wr => ∃ k gs, k ≤ xs.length ∧ xs.length - k = gk ∧ p = .int .i64 (k : Nat) ∧ Below w.heap.size w wr ∧ gs = (xs.take k).map gvOf ∧ OwnsAt wr w.heap.size 35 3 q gs.length (gs.flatMap gC))
  case atStart => exact ⟨0, [], by omega, rfl, rfl, Below.refl _ _, by simp, OwnsAt.nil _ _ _ _⟩
  case round =>
    obtain ⟨k, gs, hk, rfl, rfl, hb, hgs, ho⟩ := hrel
    obtain ⟨A2, cap2, rfl, hc2⟩ := ho.len
    have hpl : gs.length ≤ 1000000 := by rw [hgs]; simp; omega
    have HG := Lib.hid (And.intro hb (And.intro hgs (And.intro ho hpl)))
    have hle := hb.size
    clear hb hgs ho hpl
    by_cases hlt : k < xs.length
    · have hki : (k : Int) < (xs.length : Int) := by omega
      obtain ⟨b, o, cap', he, hbl, _, _, hx⟩ := HV.out.some (by omega)
      cases he
      obtain ⟨x, hp⟩ : ∃ x, xs[k]? = some x := ⟨_, List.getElem?_eq_getElem hlt⟩
      have e0 := (HG.out.1.cell (p := ⟨b, _, none⟩) hbl).trans (hx k (.string x) (by simp [strs, hp]))
      have htk : (xs.take (k + 1)).map gvOf = (xs.take k).map gvOf ++ [gvOf x] := by rw [List.take_add_one, hp, Option.toList_some, List.map_append]; rfl
      have HT := Lib.hid htk
      have hbr : b < wr.heap.size := Nat.lt_of_lt_of_le hbl hle
      clear hx htk hp
      by_cases hq : x = cS
      · have hbase : w.heap.size ≤ (wr.alloc (.cells #[.int .i64 1, .int .i64 2, .string x] 35)).heap.size := by simp; omega
        have hd := str_beq_true hq
        rw [cS_list] at hd
        have HQ := Lib.hid (show gvOf x = (1, 2, x) from if_pos hq)
        clear hq
        go_wp2_with (first
          | (at_builtin; refine wpList_append_new rfl (.tmp 24) (.tmp 26) 22 rfl w.heap.size 35 _ 3 32 gv_info Try.underlying22 rfl (by decide) (by decide) _ _ _ rfl (HG.out.2.2.1.below ((Below.refl _ _).alloc (Nat.le_refl _) _)) #[.int .i64 1, .int .i64 2, .string x] (wr.heap.size + 1) (by simp) rfl rfl rfl hbase HG.out.2.2.2 ?_; intro v' w1 ho1 hg1 hv1; obtain ⟨A3, cap3, rfl, hcap3⟩ := ho1.len; have H1 := Lib.hid (And.intro ho1 hg1); clear ho1 hg1 hv1 hcap3))
        go_roundg (xs.length - (k + 1))
        case measure => omega
        case rel =>
          have hst := HT.out
          rw [HQ.out, ← HG.out.2.1] at hst
          refine ⟨k + 1, gs ++ [(1, 2, x)], by omega, rfl, by go_num, HG.out.1.trans (((Below.refl _ _).alloc hle _).trans (below_grown H1.out.2 (fun j hj => (HG.out.2.2.1.lt j hj).1) hbase)), hst.symm, ?_⟩
          rw [List.length_append, List.flatMap_append]
          exact H1.out.1
      · have hbase : w.heap.size ≤ (wr.alloc (.cells #[.int .i64 0, .int .i64 0, .string x] 35)).heap.size := by simp; omega
        have hd := str_beq_false hq
        rw [cS_list] at hd
        have HQ := Lib.hid (show gvOf x = (0, 0, x) from if_neg hq)
        clear hq
        go_wp2_with (first
          | (at_builtin; refine wpList_append_new rfl (.tmp 24) (.tmp 26) 22 rfl w.heap.size 35 _ 3 32 gv_info Try.underlying22 rfl (by decide) (by decide) _ _ _ rfl (HG.out.2.2.1.below ((Below.refl _ _).alloc (Nat.le_refl _) _)) #[.int .i64 0, .int .i64 0, .string x] (wr.heap.size + 1) (by simp) rfl rfl rfl hbase HG.out.2.2.2 ?_; intro v' w1 ho1 hg1 hv1; obtain ⟨A3, cap3, rfl, hcap3⟩ := ho1.len; have H1 := Lib.hid (And.intro ho1 hg1); clear ho1 hg1 hv1 hcap3))
        go_roundg (xs.length - (k + 1))
        case measure => omega
        case rel =>
          have hst := HT.out
          rw [HQ.out, ← HG.out.2.1] at hst
          refine ⟨k + 1, gs ++ [(0, 0, x)], by omega, rfl, by go_num, HG.out.1.trans (((Below.refl _ _).alloc hle _).trans (below_grown H1.out.2 (fun j hj => (HG.out.2.2.1.lt j hj).1) hbase)), hst.symm, ?_⟩
          rw [List.length_append, List.flatMap_append]
          exact H1.out.1
    · obtain rfl : k = xs.length := by omega
      go_wp2_with fail
      go_ret
      refine ⟨HG.out.1, _, rfl, ?_⟩
      have e := HG.out.2.1
      rw [List.take_length] at e
      rw [← e]
      exact HG.out.2.2.1.sl

theorem pksOf_succ (l : List Gv) (k : Nat) (g : Gv) (hp : l[k]? = some g) : pksOf (l.take (k + 1)) 0 = pksOf (l.take k) 0 ++ [(((k + 1 : Nat) : Int), g, 0)] := by
  have hk : k < l.length := (List.getElem?_eq_some_iff.1 hp).1
  unfold pksOf
  rw [List.take_add_one, hp, Option.toList_some, List.zipIdx_append, List.map_append]
  simp [List.length_take, Nat.min_eq_left (Nat.le_of_lt hk)]

set_option maxRecDepth 100000 in
set_option maxHeartbeats 4000000 in
theorem accepted_ok (v : Value) (xs : List ByteArray) (w : World) (hv : SlAt w 1 v xs.length (strs xs)) (hn : xs.length ≤ 1000000) :
    Calls Try.prog 16 #[v] w fun e w' => Below w.heap.size w w' ∧ ∃ v', e = .returned v' ∧ SlAt w' 5 v' (pksOf (xs.map gvOf) 0).length ((pksOf (xs.map gvOf) 0).flatMap pC) := by
  have HC := Lib.hid (given_ok v xs w hv hn)
  have hn' : (xs.map gvOf).length ≤ 1000000 := by simpa using hn
  clear hv
  generalize xs.map gvOf = l at *
  go_enter Try.func16, Try.ntmps16
  go_wp2_with fail
  refine HC.out.mono ?_
  rintro e w1 ⟨hb1, v', rfl, hv'⟩
  obtain ⟨A, cap, rfl, hc, hm⟩ := hv'.len
  unfold maxLen at hm
  have HV := Lib.hid (And.intro hv' hb1)
  clear hv' hb1 HC
  go_wp2_with fail
  go_loopg [3, 5] l.length (fun gk q p wr => ∃ (k : Nat) (ps : List Pk), k ≤ l.length ∧ l.length - k = gk ∧ p = .int .i64 (k : Nat) ∧ Below w1.heap.size w1 wr ∧ ps = pksOf (l.take k) 0 ∧ OwnsAt wr w1.heap.size 38 5 q ps.length (ps.flatMap pC))
  case atStart => exact ⟨0, [], by omega, rfl, rfl, Below.refl _ _, by simp [pksOf], OwnsAt.nil _ _ _ _⟩
  case round =>
    obtain ⟨k, ps, hk, rfl, rfl, hb, hps, ho⟩ := hrel
    obtain ⟨A2, cap2, rfl, hc2⟩ := ho.len
    have hpl : ps.length ≤ 1000000 := by rw [hps, pksOf_len]; simp; omega
    have HG := Lib.hid (And.intro hb (And.intro hps (And.intro ho hpl)))
    have hle := hb.size
    clear hb hps ho hpl
    by_cases hlt : k < l.length
    · have hki : (k : Int) < (l.length : Int) := by omega
      obtain ⟨⟨t, c, s⟩, hp⟩ : ∃ p, l[k]? = some p := ⟨_, List.getElem?_eq_getElem hlt⟩
      obtain ⟨b, o, rfl, hbl, hx⟩ := sl_elem gC_len HV.out.1 hp rfl
      have q0 : ∀ X : Cls fun W => Below w1.heap.size w1 W, X.W.cell? ⟨b, o + k * 3, none⟩ = some (.int .i64 t) := fun X => (X.h.cell (p := ⟨b, _, none⟩) hbl).trans (hx 0 _ (by omega) rfl)
      have q1 : ∀ X : Cls fun W => Below w1.heap.size w1 W, X.W.cell? ⟨b, o + k * 3 + 1, none⟩ = some (.int .i64 c) := fun X => (X.h.cell (p := ⟨b, _, none⟩) hbl).trans (hx 1 _ (by omega) rfl)
      have q2 : ∀ X : Cls fun W => Below w1.heap.size w1 W, X.W.cell? ⟨b, o + k * 3 + 2, none⟩ = some (.string s) := fun X => (X.h.cell (p := ⟨b, _, none⟩) hbl).trans (hx 2 _ (by omega) rfl)
      have HP := Lib.hid (pksOf_succ l k _ hp)
      clear hx hp hbl
      go_upto_region 6 with fail
      refine wp_region_sub [20, 21] (fun W => Below w1.heap.size w1 W) (by kernel_rfl) (by kernel_rfl) (HG.out.1.drew) (fun _ => ?_)
      iterate 20 (refine mix_read (by kernel_rfl) (by rfl) (by rfl) (by rfl) (of_decide_eq_true (by kernel_rfl)) ?_; apply Exists.intro; apply Exists.intro; refine ⟨fun w' hw' K hK => ?_, ?_, ?_⟩; (obtain ⟨X, rfl⟩ := hw'; go_wp2_with fail; first | exact ⟨rfl, rfl⟩ | exact rfl); rfl)
      (refine mix_act (by rfl) (by rfl) (fun K hK => ?_))
      go_wp2_with fail
      refine ⟨.mk ((HG.out.1.alloc hle _).drew), ?_⟩
      (refine mix_act (by rfl) (by rfl) (fun K hK => ?_))
      refine wp_append_new (W := wr.drew) (.tmp 14) (.tmp 34) 23 rfl w1.heap.size 38 _ 5 48 pk_info Try.underlying23 rfl (by decide) (by decide) _ _ _ rfl (HG.out.2.2.1.keep (fun _ _ => rfl)) #[.int .u64 ((k : Int) + 1), .int .i64 t, .int .i64 c, .string s, .int .u64 0] rfl wr.heap.size rfl rfl rfl rfl hle HG.out.2.2.2 ?_
      intro v' w2 ho2 hg2 hv2
      obtain ⟨A3, cap3, rfl, hcap3⟩ := ho2.len
      have hb2 : Below w1.heap.size w1 w2 := (HG.out.1.drew).trans (below_grown hg2 (fun j hj => (HG.out.2.2.1.lt j hj).1) hle)
      have H2 := Lib.hid (And.intro ho2 hb2)
      clear ho2 hg2 hv2 hcap3 hb2
      refine hK _ _ ⟨.mk H2.out.2, ?_⟩
      (simp [Act.put])
      (refine mix_read (by kernel_rfl) (by rfl) (by rfl) (by rfl) (of_decide_eq_true (by kernel_rfl)) ?_; apply Exists.intro; apply Exists.intro; refine ⟨fun w' hw' K hK => ?_, ?_, ?_⟩; (obtain ⟨X, rfl⟩ := hw'; go_wp2_with fail; first | exact ⟨rfl, rfl⟩ | exact rfl); rfl)
      refine mix_nil ?_
      go_wp2_with fail
      go_roundg (l.length - (k + 1))
      case measure => omega
      case rel =>
        have hst := HP.out
        rw [← HG.out.2.1] at hst
        refine ⟨k + 1, ps ++ [(((k + 1 : Nat) : Int), (t, c, s), 0)], by omega, rfl, by go_num, H2.out.2, hst.symm, ?_⟩
        rw [List.length_append, List.flatMap_append]
        exact H2.out.1
    · obtain rfl : k = l.length := by omega
      go_wp2_with fail
      go_ret
      refine ⟨HV.out.2.trans (HG.out.1.mono HV.out.2.size), _, rfl, ?_⟩
      have e := HG.out.2.1
      rw [List.take_length] at e
      rw [← e]
      exact HG.out.2.2.1.sl

end Go.Proofs.Ytkpfebgmfkaglaa
