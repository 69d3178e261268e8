/- The first that is not as it must be. -/
import Derived.Test.YtkpfebgmfkaglaaSpB
import Derived.Test.YtkpfebgmfkaglaaRange
set_option linter.unusedSimpArgs false
set_option linter.unusedVariables false
namespace Go.Proofs.Ytkpfebgmfkaglaa
open Go.RowKit
open Go.Maps (Keyed)
attribute [local irreducible] wpMix

/-- What is left, one turned. -/
def updG (G : Int → Int → List ByteArray) (t c : Int) (r : List ByteArray) : Int → Int → List ByteArray := fun t' c' => if t = t' ∧ c = c' then r else G t' c'
def firstF (step : List ByteArray → ByteArray → Option (List ByteArray)) : (Int → Int → List ByteArray) → List Gv → Nat → Int
  | _, [], _ => -1
  | G, g :: gs, i => match step (G g.1 g.2.1) g.2.2 with
    | none => (i : Int)
    | some r => firstF step (updG G g.1 g.2.1 r) gs (i + 1)

/-- The map of what is left, as it is read. -/
def GrpR (w : World) (base b : Nat) (G : Int → Int → List ByteArray) : Prop :=
  ∃ n f, MapIs Try.prog 80 w b n f ∧ base ≤ b ∧ ∀ t c, OwnsAt w base 9 1 ((f (kv t c)).getD nilS) (G t c).length (strs (G t c))

set_option maxRecDepth 100000 in
set_option maxHeartbeats 4000000 in
theorem first_ok (fid : FuncId) (step : List ByteArray → ByteArray → Option (List ByteArray)) (hnext : NextOk fid step) (hent : ∀ args w, (callFunc fid args).run Try.prog w = .ok (.enter fid args) w) (v1 v2 : Value) (gs : List Gv) (acc : List Pk) (w : World)
    (h1 : SlAt w 3 v1 gs.length (gs.flatMap gC)) (hg : ∀ g ∈ gs, wfG g) (h2 : SlAt w 5 v2 acc.length (acc.flatMap pC)) (hw : ∀ p ∈ acc, wfG p.2.1) (hn : acc.length ≤ 1000000) :
    Calls Try.prog 17 #[v1, v2, .func (.func fid) #[] #[]] w fun e w' => e = .returned (.int .i64 (firstF step (ofK (acc.map (·.2.1))) gs 0)) ∧ Below w.heap.size w w' := by
  obtain ⟨A, cap, rfl, hc, hm⟩ := h1.len
  unfold maxLen at hm
  have H1 := Lib.hid (And.intro h1 hg)
  have HS := Lib.hid (sorted_ok v2 acc w h2 hw hn)
  have HN := Lib.hid hnext
  clear h1 hg h2 hw hn hnext
  generalize ofK (acc.map (·.2.1)) = G0 at *
  go_enter Try.func17, Try.ntmps17
  go_wp2_with fail
  refine HS.out.mono ?_
  rintro e w1 ⟨b, rfl, hb1, n1, f1, hM1, hB1, ho1, _⟩
  have hG1 : GrpR w1 w.heap.size b G0 := ⟨n1, f1, hM1, hB1, ho1⟩
  have HB1 := Lib.hid hb1
  clear hb1 hM1 ho1 HS
  go_wp2_with fail
  go_loopg [17] gs.length (fun gk p wr => ∃ k G, k ≤ gs.length ∧ gs.length - k = gk ∧ p = .int .i64 (k : Nat) ∧ Below w.heap.size w wr ∧ GrpR wr w.heap.size b G ∧ firstF step G0 gs 0 = firstF step G (gs.drop k) k)
  case atStart => exact ⟨0, G0, by omega, rfl, rfl, HB1.out, hG1, by simp⟩
  case round =>
    obtain ⟨k, G, hk, rfl, rfl, hb, hG, hf⟩ := hrel
    have hle := hb.size
    by_cases hlt : k < gs.length
    · obtain ⟨ba, o, cap', he, hbl, _, _, hx⟩ := H1.out.1.some (by omega)
      cases he
      obtain ⟨⟨t, c, s⟩, hp⟩ : ∃ p, gs[k]? = some p := ⟨_, List.getElem?_eq_getElem hlt⟩
      have hx' : ∀ m u, m < 3 → (gC (t, c, s))[m]? = some u → wr.cell? ⟨ba, o + (k * 3 + m), none⟩ = some u := fun m u hm hu =>
        (hb.cell (p := ⟨ba, _, none⟩) hbl).trans (hx _ _ (by rw [flat_at gC 3 gC_len _ _ _ hm, hp]; exact hu))
      have e0 := hx' 0 _ (by omega) rfl
      have e1 := hx' 1 _ (by omega) rfl
      have e2 := hx' 2 _ (by omega) rfl
      simp only [Nat.add_zero, ← Nat.add_assoc] at e0 e1 e2
      have hd : gs.drop k = (t, c, s) :: gs.drop (k + 1) := by rw [List.drop_eq_getElem_cons hlt]; congr 1; rw [List.getElem?_eq_getElem hlt] at hp; exact Option.some.inj hp
      have hwt := H1.out.2 _ (List.mem_of_getElem? hp)
      obtain ⟨l, hl⟩ := key_of hwt.1 hwt.2
      have HR := Lib.hid (And.intro hb (And.intro hG (And.intro hf (And.intro hd hl))))
      clear hx hx' hb hG hf hd hl hp hwt hG1
      go_upto_region 6 with fail
      generalize hW1 : World.alloc _ _ = W1
      have z5 : Blk W1 wr.heap.size 35 #[.int .i64 t, .int .i64 c, .string s] := by rw [← hW1]; exact (Blk.new _ _ _).alloc _
      have z6 : Blk W1 (wr.heap.size + 1) 80 #[.int .i64 t, .int .i64 c] := by rw [← hW1]; exact (Blk.new _ _ _).same_g (by simp)
      have b1 : Below wr.heap.size wr W1 := by rw [← hW1]; exact ((Below.refl _ _).alloc (Nat.le_refl _) _).alloc (by simp) _
      have s1 : W1.heap.size = wr.heap.size + 2 := by rw [← hW1]; simp
      have q0 : ∀ X : Cls fun W => Below W1.heap.size W1 W, X.W.cell? ⟨wr.heap.size + 1, 0, none⟩ = some (.int .i64 t) := fun X => (z6.below X.h z6.lt).cell 0
      have q1 : ∀ X : Cls fun W => Below W1.heap.size W1 W, X.W.cell? ⟨wr.heap.size + 1, 1, none⟩ = some (.int .i64 c) := fun X => (z6.below X.h z6.lt).cell 1
      have q2 : ∀ X : Cls fun W => Below W1.heap.size W1 W, X.W.cell? ⟨wr.heap.size, 2, none⟩ = some (.string s) := fun X => (z5.below X.h z5.lt).cell 2
      obtain ⟨n, f, hM, hB, ho⟩ := HR.out.2.1
      have hM1 := hM.below b1
      have hO := (ho t c).below b1
      obtain ⟨A2, cap2, hv2, hc2⟩ := hO.len
      rw [hv2] at hO
      have HM := Lib.hid (And.intro hM1 (And.intro hO (And.intro (fun t c => (ho t c).below b1) (And.intro b1 (And.intro s1 (And.intro hB z6))))))
      clear hW1 e0 e1 e2 z5 z6 b1 s1 hM ho hM1 hO
      refine wp_region_sub [3, 6] (fun W => Below W1.heap.size W1 W) (by kernel_rfl) (by kernel_rfl) ((Below.refl _ _).drew) (fun _ => ?_)
      iterate 3 (refine mix_read (by kernel_rfl) (by rfl) (by rfl) (by rfl) (of_decide_eq_true (by kernel_rfl)) ?_; apply Exists.intro; apply Exists.intro; refine ⟨fun w' hw' K hK => ?_, ?_, ?_⟩; (obtain ⟨X, rfl⟩ := hw'; go_wp2_with fail; first | exact ⟨rfl, rfl⟩ | exact rfl); rfl)
      (refine mix_act (by rfl) (by rfl) (fun K hK => ?_))
      refine wp_lookup_is (HM.out.1.keep (w' := W1.drew) rfl) key_law (.tmp 29) (.tmp 30) rfl Try.underlying77 (zero_strs _) rfl rfl HR.out.2.2.2.2 _ hv2 ?_
      refine hK _ _ ⟨.mk ((Below.refl _ _).drew), ?_⟩
      (simp [Act.put])
      iterate 2 (refine mix_read (by kernel_rfl) (by rfl) (by rfl) (by rfl) (of_decide_eq_true (by kernel_rfl)) ?_; apply Exists.intro; apply Exists.intro; refine ⟨fun w' hw' K hK => ?_, ?_, ?_⟩; (obtain ⟨X, rfl⟩ := hw'; go_wp2_with fail; first | exact ⟨rfl, rfl⟩ | exact rfl); rfl)
      (refine mix_act (by rfl) (by rfl) (fun K hK => ?_))
      go_wp2_with fail
      refine (HN.out W1.drew w.heap.size _ (G t c) s (HM.out.2.1.keep (fun _ _ => rfl))).mono ?_
      rintro e w2 ⟨rfl, v', rfl, hv'⟩
      cases hst : step (G t c) s with
      | none =>
        have HF := Lib.hid (show firstF step G0 gs 0 = (k : Int) by rw [HR.out.2.2.1, HR.out.2.2.2.1, firstF]; simp only; rw [hst])
        clear hst hv'
        simp only [Option.isSome_none]
        go_wp2_with fail
        refine ⟨.mk ((Below.refl _ _).drew), ?_⟩
        iterate 5 (refine mix_read (by kernel_rfl) (by rfl) (by rfl) (by rfl) (of_decide_eq_true (by kernel_rfl)) ?_; apply Exists.intro; apply Exists.intro; refine ⟨fun w' hw' K hK => ?_, ?_, ?_⟩; (obtain ⟨X, rfl⟩ := hw'; go_wp2_with fail; first | exact ⟨rfl, rfl⟩ | exact rfl); rfl)
        refine mix_nil ?_
        go_wp2_with fail
        go_ret
        rw [HF.out]
        exact ⟨rfl, HR.out.1.trans ((HM.out.2.2.2.1.mono hle).drew)⟩
      | some r =>
        have HF := Lib.hid (show firstF step G0 gs 0 = firstF step (updG G t c r) (gs.drop (k + 1)) (k + 1) by rw [HR.out.2.2.1, HR.out.2.2.2.1, firstF]; simp only; rw [hst])
        rw [hst] at hv'
        have HV := Lib.hid hv'
        obtain ⟨A3, cap3, rfl, hcap3⟩ := hv'.len
        clear hst hv'
        simp only [Option.isSome_some]
        go_wp2_with fail
        refine ⟨.mk ((Below.refl _ _).drew), ?_⟩
        iterate 5 (refine mix_read (by kernel_rfl) (by rfl) (by rfl) (by rfl) (of_decide_eq_true (by kernel_rfl)) ?_; apply Exists.intro; apply Exists.intro; refine ⟨fun w' hw' K hK => ?_, ?_, ?_⟩; (obtain ⟨X, rfl⟩ := hw'; go_wp2_with fail; first | exact ⟨rfl, rfl⟩ | exact rfl); rfl)
        refine mix_nil ?_
        have d60 := HM.out.2.2.2.2.2.2.cell 0
        have d61 := HM.out.2.2.2.2.2.2.cell 1
        go_wp2_with (first
          | (refine wpList_update_is rfl (HM.out.1.keep (w' := W1.drew) rfl) key_law (.tmp 40) (.tmp 41) (.tmp 42) rfl Try.underlying77 rfl rfl rfl HR.out.2.2.2.2 ?_; intro w3 hb3 hs3 hM3; have HM3 := Lib.hid (And.intro hb3 hM3); clear hb3 hM3 hs3))
        have hle2 : w.heap.size ≤ W1.drew.heap.size := by have := HM.out.2.2.2.2.1; simp only [World.size_drew]; omega
        have hbel : Below w.heap.size w w3 := (HR.out.1.trans ((HM.out.2.2.2.1.mono hle).drew)).trans (below_but HM3.out.1 (fun j hj => by have := HM.out.2.2.2.2.2.1; omega) hle2)
        have hG' : GrpR w3 w.heap.size b (updG G t c r) := by
          classical
          refine ⟨_, _, HM3.out.2 (fun k' => if k' = kv t c then some (.slice A3 r.length cap3) else f k') (if_pos rfl) (fun k' hk' => if_neg hk'), HM.out.2.2.2.2.2.1, fun t' c' => ?_⟩
          unfold updG
          by_cases hq : t = t' ∧ c = c'
          · obtain ⟨rfl, rfl⟩ := hq
            simp only [and_self, if_true, Option.getD_some]
            have hv := HV.out
            simp only [Option.getD_some] at hv
            exact hv.keep fun j hj => HM3.out.1.block j (hv.lt j hj).2 (fun e => hv.ne_map (HM.out.1.keep (w' := W1.drew) rfl) (e ▸ hj))
          · simp only [if_neg (kv_ne hq), if_neg hq]
            have hv : OwnsAt W1.drew w.heap.size 9 1 ((f (kv t' c')).getD nilS) (G t' c').length (strs (G t' c')) := (HM.out.2.2.1 t' c').keep (fun _ _ => rfl)
            exact hv.keep fun j hj => HM3.out.1.block j (hv.lt j hj).2 (fun e => hv.ne_map (HM.out.1.keep (w' := W1.drew) rfl) (e ▸ hj))
        go_roundg (gs.length - (k + 1))
        case measure => omega
        case rel => exact ⟨k + 1, _, by omega, rfl, by go_num, hbel, hG', HF.out⟩
    · obtain rfl : k = gs.length := by omega
      have HE := Lib.hid (And.intro hf hb)
      clear hf hb hG hG1
      go_wp2_with fail
      go_ret
      exact ⟨by rw [HE.out.1, List.drop_length]; rfl, HE.out.2⟩

theorem Prefix_ok (v1 v2 : Value) (gs : List Gv) (acc : List Pk) (w : World)
    (h1 : SlAt w 3 v1 gs.length (gs.flatMap gC)) (hg : ∀ g ∈ gs, wfG g) (h2 : SlAt w 5 v2 acc.length (acc.flatMap pC)) (hw : ∀ p ∈ acc, wfG p.2.1) (hn : acc.length ≤ 1000000) :
    Calls Try.prog 7 #[v1, v2] w fun e w' => e = .returned (.int .i64 (firstF stepP (ofK (acc.map (·.2.1))) gs 0)) ∧ Below w.heap.size w w' := by
  have H := Lib.hid (first_ok 18 stepP prefix1_ok (enters_of Try.func18 (by kernel_rfl) rfl) v1 v2 gs acc w h1 hg h2 hw hn)
  clear h1 hg h2 hw hn
  generalize firstF stepP (ofK (acc.map (·.2.1))) gs 0 = x at *
  go_enter Try.func7, Try.ntmps7
  go_wp2_with fail
  refine H.out.mono ?_
  rintro e w1 ⟨rfl, hb⟩
  have HB := Lib.hid hb
  clear hb
  go_wp2_with fail
  go_ret
  exact ⟨rfl, HB.out⟩
theorem Within_ok (v1 v2 : Value) (gs : List Gv) (acc : List Pk) (w : World)
    (h1 : SlAt w 3 v1 gs.length (gs.flatMap gC)) (hg : ∀ g ∈ gs, wfG g) (h2 : SlAt w 5 v2 acc.length (acc.flatMap pC)) (hw : ∀ p ∈ acc, wfG p.2.1) (hn : acc.length ≤ 1000000) :
    Calls Try.prog 9 #[v1, v2] w fun e w' => e = .returned (.int .i64 (firstF stepW (ofK (acc.map (·.2.1))) gs 0)) ∧ Below w.heap.size w w' := by
  have H := Lib.hid (first_ok 20 stepW within1_ok (enters_of Try.func20 (by kernel_rfl) rfl) v1 v2 gs acc w h1 hg h2 hw hn)
  clear h1 hg h2 hw hn
  generalize firstF stepW (ofK (acc.map (·.2.1))) gs 0 = x at *
  go_enter Try.func9, Try.ntmps9
  go_wp2_with fail
  refine H.out.mono ?_
  rintro e w1 ⟨rfl, hb⟩
  have HB := Lib.hid hb
  clear hb
  go_wp2_with fail
  go_ret
  exact ⟨rfl, HB.out⟩

end Go.Proofs.Ytkpfebgmfkaglaa
