/- Pick. -/
import Derived.Test.YtnhbcpopnhdhiaaPickF
import Derived.Laws.EntriesVeiled
set_option linter.unusedSimpArgs false
set_option linter.unusedVariables false
namespace Go.Proofs.Ytnhbcpopnhdhiaa
open Go.RowKit Go.Shelf
attribute [local irreducible] wpMix

def voiceOf (l : List Cv) : Option Cv := someP (fun x => x.2.2.1) l
def oldOf (l : List Cv) : Option Cv := someP (fun x => x.2.2.2) l
def modeOf (l : List Cv) (m : Int) : Option Cv := someP (fun x => x.2.1 == m) l
def voiceMay (l : List Cv) (last : Int) : Bool := (voiceOf l).isSome && (last != 1 || !(oldOf l).isSome)

/-- What is picked. -/
def PickR (l : List Cv) (last : Int) (w : World) (RN : List Int → Int → Option Addr → Nat → World → Prop) (d : Option Addr) (e : Ending) (w' : World) : Prop :=
  Below w.heap.size w w' ∧ ((voiceMay l last = true ∧ e = .returned (.agg (chA 1 ((voiceOf l).getD noCand).1 ((voiceOf l).getD noCand).2.1 d))) ∨
    (voiceMay l last = false ∧ (oldOf l).isSome = true ∧ e = .returned (.agg (chA 2 ((oldOf l).getD noCand).1 ((oldOf l).getD noCand).2.1 d))) ∨
    (voiceMay l last = false ∧ (oldOf l).isSome = false ∧ ∃ m nx N, w.heap.size ≤ N ∧ N ≤ w'.heap.size ∧ RN (wantL l) m nx N w' ∧
      e = .returned (.agg (match modeOf l m with | some c => chA 3 c.1 c.2.1 nx | none => chA 0 0 0 d))))

theorem RuleC.voice {gs gd gl gw : Nat} {vs : Value} {d : Option Addr} {last : Int} {wt : Bool} {l : List Cv} {w : World}
    (hs : Blk w gs 56 #[vs]) (hsv : FnS w vs l) (hd : Blk w gd 25 #[.pointer d]) (hl : Blk w gl 3 #[.int .i64 last]) (hw : Blk w gw 4 #[.bool wt]) :
    RuleC w (.func (.func 23) #[] #[.pointer (some ⟨gs, 0, none⟩), .pointer (some ⟨gd, 0, none⟩), .pointer (some ⟨gl, 0, none⟩), .pointer (some ⟨gw, 0, none⟩)])
      (chA 1 ((voiceOf l).getD noCand).1 ((voiceOf l).getD noCand).2.1 d) ((voiceOf l).isSome && (last != 1 || !wt)) :=
  ⟨_, _, _, rfl, enters_of Try.func23 (by kernel_rfl) rfl, fun W hW => by
    simp only [List.append_toArray, List.nil_append]
    exact voice_rule gs gd gl gw vs d last wt l W (hs.below hW hs.lt) (hsv.below hW) (hd.below hW hd.lt) (hl.below hW hl.lt) (hw.below hW hw.lt)⟩
theorem RuleC.old {gc gd gw : Nat} {c : Cv} {d : Option Addr} {wt : Bool} {w : World} (hc : Blk w gc 45 (cA c)) (hd : Blk w gd 25 #[.pointer d]) (hw : Blk w gw 4 #[.bool wt]) :
    RuleC w (.func (.func 25) #[] #[.pointer (some ⟨gc, 0, none⟩), .pointer (some ⟨gd, 0, none⟩), .pointer (some ⟨gw, 0, none⟩)]) (chA 2 c.1 c.2.1 d) wt :=
  ⟨_, _, _, rfl, enters_of Try.func25 (by kernel_rfl) rfl, fun W hW => by
    simp only [List.append_toArray, List.nil_append]
    exact old_rule gc gd gw c d wt W (hc.below hW hc.lt) (hd.below hW hd.lt) (hw.below hW hw.lt)⟩
theorem RuleC.none_ {gd : Nat} {d : Option Addr} {w : World} (hd : Blk w gd 25 #[.pointer d]) : RuleC w (.func (.func 29) #[] #[.pointer (some ⟨gd, 0, none⟩)]) (chA 0 0 0 d) true :=
  ⟨_, _, _, rfl, enters_of Try.func29 (by kernel_rfl) rfl, fun W hW => by
    simp only [List.append_toArray, List.nil_append]
    exact none_rule gd d W (hd.below hW hd.lt)⟩
theorem RuleS.share {gl gd gc gw gs : Nat} {vl vs vc vw : Value} {d : Option Addr} {l : List Cv} {w : World} {RN : List Int → Int → Option Addr → Nat → World → Prop}
    (hvl : Blk w gl 30 #[vl]) (hl : SlAt w 4 vl l.length (l.flatMap cC)) (hn : l.length ≤ 1000000) (hd : Blk w gd 25 #[.pointer d])
    (hc : Blk w gc 29 #[vc]) (hw : Blk w gw 29 #[vw]) (hs : Blk w gs 56 #[vs]) (hsv : FnS w vs l) (hN : NextC w d vc vw RN) (hS : Stab RN) :
    RuleS w (.func (.func 26) #[] #[.pointer (some ⟨gl, 0, none⟩), .pointer (some ⟨gd, 0, none⟩), .pointer (some ⟨gc, 0, none⟩), .pointer (some ⟨gw, 0, none⟩), .pointer (some ⟨gs, 0, none⟩)]) l RN :=
  ⟨_, _, _, rfl, enters_of Try.func26 (by kernel_rfl) rfl, fun W hW => by
    simp only [List.append_toArray, List.nil_append]
    exact share_rule gl gd gc gw gs vl vs vc vw d l W RN (hvl.below hW hvl.lt) (hl.below hW) hn (hd.below hW hd.lt) (hc.below hW hc.lt) (hw.below hW hw.lt) (hs.below hW hs.lt) (hsv.below hW) (hN.below hW) hS⟩

def isFn (v : Value) : Prop := v = .nilFunc ∨ ∃ K fs cap, v = .func K fs cap

set_option maxRecDepth 100000 in
set_option maxHeartbeats 8000000 in
theorem pick_any (vl vc vw : Value) (last : Int) (d : Option Addr) (l : List Cv) (w : World) (RN : List Int → Int → Option Addr → Nat → World → Prop) (hS : Stab RN)
    (hl : SlAt w 4 vl l.length (l.flatMap cC)) (hn : l.length ≤ 1000000) (hvc : isFn vc) (hvw : isFn vw) (hN : NextC w d vc vw RN) :
    Calls Try.prog 11 #[vl, .int .i64 last, .pointer d, vc, vw] w (PickR l last w RN d) := by
  obtain ⟨A, cap, rfl, hcl, hcm⟩ := hl.len
  have HH := Lib.hid (And.intro hl (And.intro hn hN))
  clear hl hn hN
  obtain ⟨⟨on, om, ov, oo⟩, ho⟩ : ∃ r, (oldOf l).getD noCand = r := ⟨_, rfl⟩
  obtain ⟨wt, hwt⟩ : ∃ s, (oldOf l).isSome = s := ⟨_, rfl⟩
  have HO := Lib.hid (And.intro ho hwt)
  clear ho hwt
  go_enter Try.func11, Try.ntmps11
  go_upto_region 0 with fail
  go_cut [5, 6, 7, 8, 9, 10] from 18 to 18 (fun s5 s6 s7 s8 s9 s10 W0 => s5 = .pointer (some ⟨w.heap.size, 0, none⟩) ∧ s6 = .pointer (some ⟨w.heap.size + 1, 0, none⟩) ∧ s7 = .pointer (some ⟨w.heap.size + 2, 0, none⟩) ∧ s8 = .pointer (some ⟨w.heap.size + 3, 0, none⟩) ∧ s9 = .pointer (some ⟨w.heap.size + 4, 0, none⟩) ∧ s10 = .pointer (some ⟨w.heap.size + 5, 0, none⟩) ∧
    Blk W0 w.heap.size 30 #[.slice A l.length cap] ∧ Blk W0 (w.heap.size + 1) 3 #[.int .i64 last] ∧ Blk W0 (w.heap.size + 2) 25 #[.pointer d] ∧ Blk W0 (w.heap.size + 3) 29 #[vc] ∧ Blk W0 (w.heap.size + 4) 29 #[vw] ∧
    Blk W0 (w.heap.size + 5) 33 #[.int .i64 0, .int .u64 0, .int .i64 0, .pointer none] ∧ W0.heap.size = w.heap.size + 6 ∧ Below w.heap.size w W0)
  case first =>
    rcases hvc with rfl | ⟨Kc, fsc, fcc, rfl⟩ <;> rcases hvw with rfl | ⟨Kw, fsw, fcw, rfl⟩
    all_goals
      go_wp2_with fail
      go_meet
      refine ⟨rfl, rfl, rfl, rfl, rfl, rfl, ?_, ?_, ?_, ?_, ?_, ?_, by simp, ?_⟩
      · exact (((((((Blk.new _ _ _).same_g (by simp)).alloc _).alloc _).alloc _).alloc _).alloc _)
      · exact ((((((Blk.new _ _ _).same_g (by simp)).alloc _).alloc _).alloc _).alloc _)
      · exact (((((Blk.new _ _ _).same_g (by simp)).alloc _).alloc _).alloc _)
      · exact ((((Blk.new _ _ _).same_g (by simp)).alloc _).alloc _)
      · exact (((Blk.new _ _ _).same_g (by simp)).alloc _)
      · exact ((Blk.new _ _ _).same_g (by simp))
      · repeat (first | exact Below.refl _ _ | refine Below.alloc ?_ (by simp; try omega) _)
  case rest =>
    obtain ⟨rfl, rfl, rfl, rfl, rfl, rfl, k0, k1, k2, k3, k4, k5, s0, b0⟩ := hcut
    have HB := Lib.hid (And.intro k0 (And.intro k1 (And.intro k2 (And.intro k3 (And.intro k4 (And.intro k5 (And.intro s0 b0)))))))
    clear k0 k1 k2 k3 k4 k5 b0 hvc hvw s0
    go_upto_region 2 with fail
    generalize hW1 : World.alloc _ _ = W1
    rw [HB.out.2.2.2.2.2.2.1]
    have s0 := HB.out.2.2.2.2.2.2.1
    have b1 : Below wc.heap.size wc W1 := by rw [← hW1]; exact (Below.refl _ _).alloc (Nat.le_refl _) _
    have k6 : Blk W1 (w.heap.size + 6) 56 #[.func (.func 17) #[] #[.pointer (some ⟨w.heap.size, 0, none⟩)]] := by rw [← hW1]; exact (Blk.new _ _ _).same_g HB.out.2.2.2.2.2.2.1
    have hb1 : Below w.heap.size w W1 := HB.out.2.2.2.2.2.2.2.trans (b1.mono (by omega))
    have HW1 := Lib.hid (And.intro b1 (And.intro k6 hb1))
    have c6 := k6.cell 0
    have s1 : W1.heap.size = w.heap.size + 7 := by rw [← hW1]; simp [HB.out.2.2.2.2.2.2.1]
    clear hW1 b1 k6 hb1
    go_wp2_with fail
    have hsc := some_any w.heap.size _ _ _ l W1 (HB.out.1.below HW1.out.1 HB.out.1.lt) (HH.out.1.below HW1.out.2.2) (FnC.old W1)
    have e1 : someP (fun x => x.2.2.2) l = oldOf l := rfl
    rw [e1, HO.out.1, HO.out.2] at hsc
    refine hsc.mono ?_
    clear hsc e1
    rintro e w2 ⟨rfl, hb2⟩
    simp only [cA]
    have H2 := Lib.hid (And.intro (HW1.out.1.trans (hb2.mono HW1.out.1.size)) (And.intro (HW1.out.2.1.below hb2 HW1.out.2.1.lt) (And.intro (HW1.out.2.2.trans (hb2.mono HW1.out.2.2.size)) hb2.size)))
    clear hb2 c6
    go_wp2_with fail
    generalize hW3 : World.alloc _ _ = W3
    have z12 : Blk W3 w2.heap.size 45 (cA (on, om, ov, oo)) := by rw [← hW3]; exact ((Blk.new _ _ _).alloc _).alloc _
    have z13 : Blk W3 (w2.heap.size + 1) 4 #[.bool wt] := by rw [← hW3]; exact ((Blk.new _ _ _).same_g (by simp)).alloc _
    have zf : Blk W3 (w2.heap.size + 1 + 1) 57 #[.func (.func 23) #[] #[.pointer (some ⟨w.heap.size + 6, 0, none⟩), .pointer (some ⟨w.heap.size + 2, 0, none⟩), .pointer (some ⟨w.heap.size + 1, 0, none⟩), .pointer (some ⟨w2.heap.size + 1, 0, none⟩)],
        .func (.func 25) #[] #[.pointer (some ⟨w2.heap.size, 0, none⟩), .pointer (some ⟨w.heap.size + 2, 0, none⟩), .pointer (some ⟨w2.heap.size + 1, 0, none⟩)],
        .func (.func 26) #[] #[.pointer (some ⟨w.heap.size, 0, none⟩), .pointer (some ⟨w.heap.size + 2, 0, none⟩), .pointer (some ⟨w.heap.size + 3, 0, none⟩), .pointer (some ⟨w.heap.size + 4, 0, none⟩), .pointer (some ⟨w.heap.size + 6, 0, none⟩)],
        .func (.func 29) #[] #[.pointer (some ⟨w.heap.size + 2, 0, none⟩)]] := by rw [← hW3]; exact (Blk.new _ _ _).same_g (by simp)
    have b3 : Below w2.heap.size w2 W3 := by rw [← hW3]; exact (((Below.refl _ _).alloc (Nat.le_refl _) _).alloc (by simp) _).alloc (by simp; omega) _
    clear hW3
    have bc3 : Below wc.heap.size wc W3 := H2.out.1.trans (b3.mono H2.out.1.size)
    have bw3 : Below w.heap.size w W3 := H2.out.2.2.1.trans (b3.mono H2.out.2.2.1.size)
    have kk6 := H2.out.2.1.below b3 H2.out.2.1.lt
    have kk0 := HB.out.1.below bc3 HB.out.1.lt
    have kk1 := HB.out.2.1.below bc3 HB.out.2.1.lt
    have kk2 := HB.out.2.2.1.below bc3 HB.out.2.2.1.lt
    have kk3 := HB.out.2.2.2.1.below bc3 HB.out.2.2.2.1.lt
    have kk4 := HB.out.2.2.2.2.1.below bc3 HB.out.2.2.2.2.1.lt
    have kk5 := HB.out.2.2.2.2.2.1.below bc3 HB.out.2.2.2.2.2.1.lt
    have hsl := HH.out.1.below bw3
    have hof := of_any (w2.heap.size + 1 + 1) _ _ _ _ l W3 RN hS 1 _ _ 2 _ _ d _ _ zf (RuleC.voice kk6 (FnS.mk kk0 hsl) kk2 kk1 z13) (RuleC.old z12 kk2 z13) (RuleS.share kk0 hsl HH.out.2.1 kk2 kk3 kk4 kk6 (FnS.mk kk0 hsl) (HH.out.2.2.below bw3) hS) (RuleC.none_ kk2)
    have l3 := kk5.lt
    have HK5 := Lib.hid (And.intro kk5 bw3)
    refine hof.mono ?_
    clear hof z12 z13 zf b3 bc3 bw3 kk6 kk0 kk1 kk2 kk3 kk4 kk5 hsl
    rintro e w4 ⟨hb4, hcase⟩
    have hvm : ((voiceOf l).isSome && (last != 1 || !wt)) = voiceMay l last := by rw [voiceMay, HO.out.2]
    rw [hvm] at hcase
    have z5 := HK5.out.1.below hb4 l3
    have H5 := Lib.hid (And.intro z5 (HK5.out.2.trans (hb4.mono HK5.out.2.size)))
    have l5 := z5.lt
    have f0 := z5.frozen 0
    have f1 := z5.frozen 1
    have f2 := z5.frozen 2
    have f3 := z5.frozen 3
    have c0 := z5.cell 0
    have c1 := z5.cell 1
    have c2 := z5.cell 2
    have c3 := z5.cell 3
    clear z5 hvm
    rcases hcase with ⟨hv, rfl⟩ | ⟨hv, hw, rfl⟩ | ⟨hv, hw, m, nx, N, hN1, hN2, hrn, rfl⟩
    · have HV := Lib.hid hv
      clear hv
      obtain ⟨⟨vn, vm, vv, vo⟩, hve⟩ : ∃ r, (voiceOf l).getD noCand = r := ⟨_, rfl⟩
      have HVE := Lib.hid hve
      rw [hve]
      clear hve
      simp only [chA]
      go_wp2_with fail
      have hfin := (((H5.out.1.set_ 0 (.int .i64 1)).set_ 1 (.int .u64 vn)).set_ 2 (.int .i64 vm)).set_ 3 (.pointer d)
      have hbb : Below w.heap.size w ((((w4.setCell ⟨w.heap.size + 5, 0, none⟩ (.int .i64 1)).setCell ⟨w.heap.size + 5, 1, none⟩ (.int .u64 vn)).setCell ⟨w.heap.size + 5, 2, none⟩ (.int .i64 vm)).setCell ⟨w.heap.size + 5, 3, none⟩ (.pointer d)) :=
        (((H5.out.2.setCell (p := ⟨w.heap.size + 5, 0, none⟩) (by simp) _).setCell (p := ⟨w.heap.size + 5, 1, none⟩) (by simp) _).setCell (p := ⟨w.heap.size + 5, 2, none⟩) (by simp) _).setCell (p := ⟨w.heap.size + 5, 3, none⟩) (by simp) _
      refine bodyPost_ret (results_cell_row rfl _ _ (w.heap.size + 5) 33 _ (0, 0) _ rfl hfin Try.underlying33 rfl (by kernel_rfl)) rfl ⟨hbb, .inl ⟨HV.out, by rw [HVE.out]; rfl⟩⟩
    · have HV := Lib.hid (And.intro hv hw)
      clear hv hw
      simp only [chA]
      go_wp2_with fail
      have hfin := (((H5.out.1.set_ 0 (.int .i64 2)).set_ 1 (.int .u64 on)).set_ 2 (.int .i64 om)).set_ 3 (.pointer d)
      have hbb : Below w.heap.size w ((((w4.setCell ⟨w.heap.size + 5, 0, none⟩ (.int .i64 2)).setCell ⟨w.heap.size + 5, 1, none⟩ (.int .u64 on)).setCell ⟨w.heap.size + 5, 2, none⟩ (.int .i64 om)).setCell ⟨w.heap.size + 5, 3, none⟩ (.pointer d)) :=
        (((H5.out.2.setCell (p := ⟨w.heap.size + 5, 0, none⟩) (by simp) _).setCell (p := ⟨w.heap.size + 5, 1, none⟩) (by simp) _).setCell (p := ⟨w.heap.size + 5, 2, none⟩) (by simp) _).setCell (p := ⟨w.heap.size + 5, 3, none⟩) (by simp) _
      refine bodyPost_ret (results_cell_row rfl _ _ (w.heap.size + 5) 33 _ (0, 0) _ rfl hfin Try.underlying33 rfl (by kernel_rfl)) rfl ⟨hbb, .inr (.inl ⟨HV.out.1, by rw [HO.out.2]; exact HV.out.2, by rw [HO.out.1]; rfl⟩)⟩
    · have HV := Lib.hid (And.intro hv (And.intro hw hrn))
      have hN5 : w.heap.size + 5 < N := by omega
      clear hv hw hrn
      cases hm : someP (fun x => x.2.1 == m) l with
      | some c =>
        have HM := Lib.hid hm
        clear hm
        obtain ⟨cn, cm, cv, co⟩ := c
        simp only [chA]
        go_wp2_with fail
        have hfin := (((H5.out.1.set_ 0 (.int .i64 3)).set_ 1 (.int .u64 cn)).set_ 2 (.int .i64 cm)).set_ 3 (.pointer nx)
        have hbb : Below w.heap.size w ((((w4.setCell ⟨w.heap.size + 5, 0, none⟩ (.int .i64 3)).setCell ⟨w.heap.size + 5, 1, none⟩ (.int .u64 cn)).setCell ⟨w.heap.size + 5, 2, none⟩ (.int .i64 cm)).setCell ⟨w.heap.size + 5, 3, none⟩ (.pointer nx)) :=
          (((H5.out.2.setCell (p := ⟨w.heap.size + 5, 0, none⟩) (by simp) _).setCell (p := ⟨w.heap.size + 5, 1, none⟩) (by simp) _).setCell (p := ⟨w.heap.size + 5, 2, none⟩) (by simp) _).setCell (p := ⟨w.heap.size + 5, 3, none⟩) (by simp) _
        have hbt : But (fun j => j < N) w4.heap.size w4 ((((w4.setCell ⟨w.heap.size + 5, 0, none⟩ (.int .i64 3)).setCell ⟨w.heap.size + 5, 1, none⟩ (.int .u64 cn)).setCell ⟨w.heap.size + 5, 2, none⟩ (.int .i64 cm)).setCell ⟨w.heap.size + 5, 3, none⟩ (.pointer nx)) :=
          ((((But.refl (fun j => j < N) w4.heap.size w4).setCell (p := ⟨w.heap.size + 5, 0, none⟩) (fun _ => hN5) _).setCell (p := ⟨w.heap.size + 5, 1, none⟩) (fun _ => hN5) _).setCell (p := ⟨w.heap.size + 5, 2, none⟩) (fun _ => hN5) _).setCell (p := ⟨w.heap.size + 5, 3, none⟩) (fun _ => hN5) _
        refine bodyPost_ret (results_cell_row rfl _ _ (w.heap.size + 5) 33 _ (0, 0) _ rfl hfin Try.underlying33 rfl (by kernel_rfl)) rfl ⟨hbb, .inr (.inr ⟨HV.out.1, by rw [HO.out.2]; exact HV.out.2.1, m, nx, N, by omega, Nat.le_trans hN2 hbt.size, hS _ _ _ _ _ _ HV.out.2.2 hbt, by rw [modeOf, HM.out]; rfl⟩)⟩
      | none =>
        have HM := Lib.hid hm
        clear hm
        simp only [chA]
        go_wp2_with fail
        have hfin := (((H5.out.1.set_ 0 (.int .i64 0)).set_ 1 (.int .u64 0)).set_ 2 (.int .i64 0)).set_ 3 (.pointer d)
        have hbb : Below w.heap.size w ((((w4.setCell ⟨w.heap.size + 5, 0, none⟩ (.int .i64 0)).setCell ⟨w.heap.size + 5, 1, none⟩ (.int .u64 0)).setCell ⟨w.heap.size + 5, 2, none⟩ (.int .i64 0)).setCell ⟨w.heap.size + 5, 3, none⟩ (.pointer d)) :=
          (((H5.out.2.setCell (p := ⟨w.heap.size + 5, 0, none⟩) (by simp) _).setCell (p := ⟨w.heap.size + 5, 1, none⟩) (by simp) _).setCell (p := ⟨w.heap.size + 5, 2, none⟩) (by simp) _).setCell (p := ⟨w.heap.size + 5, 3, none⟩) (by simp) _
        have hbt : But (fun j => j < N) w4.heap.size w4 ((((w4.setCell ⟨w.heap.size + 5, 0, none⟩ (.int .i64 0)).setCell ⟨w.heap.size + 5, 1, none⟩ (.int .u64 0)).setCell ⟨w.heap.size + 5, 2, none⟩ (.int .i64 0)).setCell ⟨w.heap.size + 5, 3, none⟩ (.pointer d)) :=
          ((((But.refl (fun j => j < N) w4.heap.size w4).setCell (p := ⟨w.heap.size + 5, 0, none⟩) (fun _ => hN5) _).setCell (p := ⟨w.heap.size + 5, 1, none⟩) (fun _ => hN5) _).setCell (p := ⟨w.heap.size + 5, 2, none⟩) (fun _ => hN5) _).setCell (p := ⟨w.heap.size + 5, 3, none⟩) (fun _ => hN5) _
        refine bodyPost_ret (results_cell_row rfl _ _ (w.heap.size + 5) 33 _ (0, 0) _ rfl hfin Try.underlying33 rfl (by kernel_rfl)) rfl ⟨hbb, .inr (.inr ⟨HV.out.1, by rw [HO.out.2]; exact HV.out.2.1, m, nx, N, by omega, Nat.le_trans hN2 hbt.size, hS _ _ _ _ _ _ HV.out.2.2 hbt, by rw [modeOf, HM.out]; rfl⟩)⟩

end Go.Proofs.Ytnhbcpopnhdhiaa
