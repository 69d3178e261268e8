/- The rule of shares. -/
import Derived.Test.YtnhbcpopnhdhiaaPickD
set_option linter.unusedSimpArgs false
set_option linter.unusedVariables false
namespace Go.Proofs.Ytnhbcpopnhdhiaa
open Go.RowKit Go.Shelf
attribute [local irreducible] wpMix

def wantL (l : List Cv) : List Int := (l.filter countsF).map (·.2.1)
theorem wantL_snoc (l : List Cv) (x : Cv) : wantL (l ++ [x]) = wantL l ++ if countsF x then [x.2.1] else [] := by
  unfold wantL
  rw [List.filter_append, List.map_append]
  congr 1
  cases h : countsF x <;> simp [h]
theorem int_info : (Try.prog.info? 3).map (fun i => (i.zero, i.size, i.bytes)) = some (some (.int .i64 0), 1, 8) := by kernel_rfl

/-- What the sharer answers, from the world w on. -/
def NextC (w : World) (d : Option Addr) (vc vw : Value) (RN : List Int → Int → Option Addr → Nat → World → Prop) : Prop :=
  ∀ W, Below w.heap.size w W → ∀ A len cap (zs : List Int), SlAt W 1 (.slice A len cap) zs.length (zs.map (Value.int .i64)) → zs.length ≤ 1000000 →
    Calls Try.prog 27 #[.pointer d, .slice A len cap, vc, vw] W fun e W' => Below W.heap.size W W' ∧ ∃ m nx, e = .returned (.tuple #[.int .i64 m, .pointer nx]) ∧ RN zs m nx W.heap.size W'
theorem NextC.below {w w' : World} {d : Option Addr} {vc vw : Value} {RN : List Int → Int → Option Addr → Nat → World → Prop} (h : NextC w d vc vw RN) (hb : Below w.heap.size w w') : NextC w' d vc vw RN :=
  fun W hW => h W (hb.trans (hW.mono hb.size))

/-- It hangs on new blocks alone. -/
def Stab (RN : List Int → Int → Option Addr → Nat → World → Prop) : Prop := ∀ zs m nx N W1 W', RN zs m nx N W1 → But (fun j => j < N) W1.heap.size W1 W' → RN zs m nx N W'
/-- What it comes to. -/
def ShareR (l : List Cv) (w : World) (RN : List Int → Int → Option Addr → Nat → World → Prop) (e : Ending) (W' : World) : Prop :=
  ∃ m nx N, w.heap.size < N ∧ N ≤ W'.heap.size ∧ RN (wantL l) m nx N W' ∧
    e = .returned (.tuple #[.agg (chA 3 ((someP (fun x => x.2.1 == m) l).getD noCand).1 ((someP (fun x => x.2.1 == m) l).getD noCand).2.1 nx), .bool (someP (fun x => x.2.1 == m) l).isSome])

set_option maxRecDepth 100000 in
set_option maxHeartbeats 4000000 in
theorem share_rule (gl gd gc gw gs : Nat) (vl vs vc vw : Value) (d : Option Addr) (l : List Cv) (w : World) (RN : List Int → Int → Option Addr → Nat → World → Prop)
    (hvl : Blk w gl 30 #[vl]) (hl : SlAt w 4 vl l.length (l.flatMap cC)) (hn : l.length ≤ 1000000) (hd : Blk w gd 25 #[.pointer d])
    (hc : Blk w gc 29 #[vc]) (hw : Blk w gw 29 #[vw]) (hs : Blk w gs 56 #[vs]) (hsv : FnS w vs l)
    (hN : NextC w d vc vw RN) (hS : Stab RN) :
    Calls Try.prog 26 #[.pointer (some ⟨gl, 0, none⟩), .pointer (some ⟨gd, 0, none⟩), .pointer (some ⟨gc, 0, none⟩), .pointer (some ⟨gw, 0, none⟩), .pointer (some ⟨gs, 0, none⟩)] w fun e w' =>
      Below w.heap.size w w' ∧ ShareR l w RN e w' := by
  obtain ⟨K, fs, fc, rfl, hent, hk⟩ := id hsv
  obtain ⟨A, cap, rfl, hcl, hcm⟩ := hl.len
  unfold maxLen at hcm
  have c0 := hvl.cell 0
  have lvl := hvl.lt
  have HH := Lib.hid (And.intro hl (And.intro hvl (And.intro hd (And.intro hc (And.intro hw (And.intro hs (And.intro hk hN)))))))
  clear hl hvl hd hc hw hs hsv hk hN
  go_enter Try.func26, Try.ntmps26
  go_wp2_with fail
  clear c0
  go_loopg [7, 16] l.length (fun gk q p wr => ∃ (k : Nat) (zs : List Int), k ≤ l.length ∧ l.length - k = gk ∧ p = .int .i64 (k : Nat) ∧ zs = wantL (l.take k) ∧ Below w.heap.size w wr ∧ Blk wr w.heap.size 33 #[.int .i64 0, .int .u64 0, .int .i64 0, .pointer none] ∧ OwnsAt wr (w.heap.size + 1) 3 1 q zs.length (zs.map (Value.int .i64)))
  case atStart => exact ⟨0, [], by omega, rfl, rfl, by simp [wantL], (Below.refl _ _).alloc (Nat.le_refl _) _, Blk.new _ _ _, OwnsAt.nil _ _ _ _⟩
  case round =>
    obtain ⟨k, zs, hk, rfl, rfl, hzs, hb, hB, ho⟩ := hrel
    have hzl : zs.length ≤ 1000000 := by rw [hzs, wantL, List.length_map]; exact Nat.le_trans (List.length_filter_le _ _) (by simp; omega)
    obtain ⟨A2, cap2, rfl, hc2⟩ := ho.len
    have HK := Lib.hid (And.intro hzs (And.intro hb (And.intro hB (And.intro ho hzl))))
    have hle := hb.size
    have hBl := hB.lt
    clear hzs hb hB ho hzl
    by_cases hlt : k < l.length
    · have hki : (k : Int) < (l.length : Int) := by omega
      obtain ⟨b, o, cap', he', hbl, _, _, hx⟩ := HH.out.1.some (by omega)
      cases he'
      obtain ⟨⟨n, m, vo, ol⟩, hp'⟩ : ∃ x, l[k]? = some x := ⟨_, List.getElem?_eq_getElem hlt⟩
      have hx' : ∀ j u, j < 4 → (cC (n, m, vo, ol))[j]? = some u → wr.cell? ⟨b, o + (k * 4 + j), none⟩ = some u := fun j u hm hu =>
        (HK.out.2.1.cell (p := ⟨b, _, none⟩) hbl).trans (hx _ _ (by rw [flat_at cC 4 cC_len _ _ _ hm, hp']; exact hu))
      have e0 := hx' 0 _ (by omega) rfl
      have e1 := hx' 1 _ (by omega) rfl
      have e2 := hx' 2 _ (by omega) rfl
      have e3 := hx' 3 _ (by omega) rfl
      simp only [Nat.add_zero, ← Nat.add_assoc] at e0 e1 e2 e3
      have hst : wantL (l.take (k + 1)) = zs ++ if countsF (n, m, vo, ol) then [m] else [] := by rw [List.take_add_one, hp', Option.toList_some, wantL_snoc, ← HK.out.1]
      have HST := Lib.hid hst
      clear hx hx' hp' hst
      obtain ⟨q, hq⟩ : ∃ q, countsF (n, m, vo, ol) = q := ⟨_, rfl⟩
      have hcc := counts_any n m vo ol (wr.alloc (.cells #[.int .u64 n, .int .i64 m, .bool vo, .bool ol] 45))
      rw [hq] at hcc
      have HC := Lib.hid (And.intro hcc hq)
      clear hcc hq
      go_wp2_with fail
      refine HC.out.1.mono ?_
      rintro e w2 ⟨rfl, hb⟩
      have hb2 : Below wr.heap.size wr w2 := ((Below.refl _ _).alloc (Nat.le_refl _) _).trans (hb.mono (by simp))
      have z := (Blk.new wr 45 #[.int .u64 n, .int .i64 m, .bool vo, .bool ol]).below hb (by simp)
      have H2 := Lib.hid (And.intro (HK.out.2.2.1.below hb2 hBl) (And.intro (HK.out.2.1.trans (hb2.mono hle)) (HK.out.2.2.2.1.below hb2)))
      have hs2 : wr.heap.size < w2.heap.size := z.lt
      have d1 := z.cell 1
      clear hb hb2 e0 e1 e2 e3 z
      cases q with
      | false =>
        have HB := Lib.hid (show wantL (l.take (k + 1)) = zs by rw [HST.out, HC.out.2]; simp)
        go_wp2_with fail
        go_roundg (l.length - (k + 1))
        case measure => omega
        case rel => exact ⟨k + 1, zs, by omega, rfl, by go_num, HB.out.symm, H2.out.2.1, H2.out.1, H2.out.2.2⟩
      | true =>
        have HB := Lib.hid (show wantL (l.take (k + 1)) = zs ++ [m] by rw [HST.out, HC.out.2]; simp)
        have hbase : w.heap.size + 1 ≤ w2.heap.size := by omega
        go_wp2_with (first
          | (at_builtin; refine wpList_append_new rfl (.tmp 22) (.tmp 25) 58 rfl (w.heap.size + 1) 3 _ 1 8 int_info Try.underlying58 rfl (by decide) (by decide) _ _ _ rfl H2.out.2.2 #[.int .i64 m] _ rfl rfl rfl rfl hbase HK.out.2.2.2.2 ?_; intro v' w3 ho3 hg3 hv3; obtain ⟨A3, cap3, rfl, hcap3⟩ := ho3.len; have H3 := Lib.hid (And.intro ho3 hg3); clear ho3 hg3 hv3 hcap3))
        go_roundg (l.length - (k + 1))
        case measure => omega
        case rel =>
          have hle2 : w.heap.size + 1 ≤ w2.heap.size := hbase
          have hb3 : Below (w.heap.size + 1) w2 w3 := grown_below H3.out.2 (fun j hj => (H2.out.2.2.lt j hj).1) hle2
          refine ⟨k + 1, zs ++ [m], by omega, rfl, by go_num, HB.out.symm, H2.out.2.1.trans (hb3.mono (by omega)), H2.out.1.below hb3 (by omega), ?_⟩
          rw [List.length_append, List.map_append]
          exact H3.out.1
    · obtain rfl : k = l.length := by omega
      have hz := HK.out.1
      rw [List.take_length] at hz
      have HZ := Lib.hid hz
      clear hz hlt
      have cd := (HH.out.2.2.1.below HK.out.2.1 HH.out.2.2.1.lt).cell 0
      have cc := (HH.out.2.2.2.1.below HK.out.2.1 HH.out.2.2.2.1.lt).cell 0
      have cw := (HH.out.2.2.2.2.1.below HK.out.2.1 HH.out.2.2.2.2.1.lt).cell 0
      go_wp2_with fail
      refine (HH.out.2.2.2.2.2.2.2 wr HK.out.2.1 _ _ _ zs HK.out.2.2.2.1.sl HK.out.2.2.2.2).mono ?_
      rintro e w3 ⟨hb, m, nx, rfl, hrn⟩
      rw [HZ.out] at hrn
      have HR4 := hb.size
      have hb3 := HK.out.2.1.trans (hb.mono hle)
      have HR := Lib.hid (And.intro hrn (And.intro hb3 (HK.out.2.2.1.below hb hBl)))
      have cs := (HH.out.2.2.2.2.2.1.below hb3 HH.out.2.2.2.2.2.1.lt).cell 0
      have ls := HH.out.2.2.2.2.2.1.lt
      have hl3 := hb3.size
      have lgs3 : gs < w3.heap.size := by omega
      clear cd cc cw hb hrn hb3
      have hcs := HH.out.2.2.2.2.2.2.1 (w3.alloc (.cells #[.int .i64 m] 3)) (HR.out.2.1.alloc hl3 _) _ _ (FnC.mode (Blk.new w3 3 #[.int .i64 m]))
      obtain ⟨⟨n, m', vo, ol⟩, hr⟩ : ∃ r, (someP (fun x => x.2.1 == m) l).getD noCand = r := ⟨_, rfl⟩
      obtain ⟨sm, hsm⟩ : ∃ s, (someP (fun x => x.2.1 == m) l).isSome = s := ⟨_, rfl⟩
      rw [hr, hsm] at hcs
      have HC := Lib.hid (And.intro hcs (And.intro hr hsm))
      clear hcs hr hsm
      go_wp2_with fail
      refine HC.out.1.mono ?_
      rintro e w4 ⟨rfl, hb⟩
      simp only [cA]
      have hb34 : Below w3.heap.size w3 w4 := ((Below.refl _ _).alloc (Nat.le_refl _) _).trans (hb.mono (by simp))
      have z5 := HR.out.2.2.below hb34 HR.out.2.2.lt
      have l5 := z5.lt
      have f0 := z5.frozen 0
      have f1 := z5.frozen 1
      have f2 := z5.frozen 2
      have f3 := z5.frozen 3
      have c0 := z5.cell 0
      have c1 := z5.cell 1
      have c2 := z5.cell 2
      have c3 := z5.cell 3
      have H4 := Lib.hid (And.intro z5 (And.intro (HR.out.2.1.trans (hb34.mono hl3)) hb34))
      clear z5 hb hb34
      go_wp2_with fail
      have hfin := (((H4.out.1.set_ 0 (.int .i64 3)).set_ 1 (.int .u64 n)).set_ 2 (.int .i64 m')).set_ 3 (.pointer nx)
      have hbt : ∀ o, But (fun j => j < wr.heap.size) w3.heap.size w3 (((((w4.setCell ⟨w.heap.size, 0, none⟩ (.int .i64 3)).setCell ⟨w.heap.size, 1, none⟩ (.int .u64 n)).setCell ⟨w.heap.size, 2, none⟩ (.int .i64 m')).setCell ⟨w.heap.size, 3, none⟩ (.pointer nx)).alloc o) := fun o =>
        (((((But.of_below H4.out.2.2).setCell (p := ⟨w.heap.size, 0, none⟩) (fun _ => hBl) _).setCell (p := ⟨w.heap.size, 1, none⟩) (fun _ => hBl) _).setCell (p := ⟨w.heap.size, 2, none⟩) (fun _ => hBl) _).setCell (p := ⟨w.heap.size, 3, none⟩) (fun _ => hBl) _).alloc (by have := H4.out.2.2.size; simpa [World.setCell] using this) o
      have hbb : ∀ o, Below w.heap.size w (((((w4.setCell ⟨w.heap.size, 0, none⟩ (.int .i64 3)).setCell ⟨w.heap.size, 1, none⟩ (.int .u64 n)).setCell ⟨w.heap.size, 2, none⟩ (.int .i64 m')).setCell ⟨w.heap.size, 3, none⟩ (.pointer nx)).alloc o) := fun o =>
        ((((H4.out.2.1.setCell (p := ⟨w.heap.size, 0, none⟩) (Nat.le_refl _) _).setCell (p := ⟨w.heap.size, 1, none⟩) (Nat.le_refl _) _).setCell (p := ⟨w.heap.size, 2, none⟩) (Nat.le_refl _) _).setCell (p := ⟨w.heap.size, 3, none⟩) (Nat.le_refl _) _).alloc (by have := H4.out.2.1.size; simpa [World.setCell] using this) o
      refine bodyPost_ret (res_cell_tmp rfl _ _ w.heap.size 33 _ _ rfl (hfin.alloc _) Try.underlying33 rfl (by kernel_rfl)) rfl ⟨hbb _, m, nx, wr.heap.size, hBl, ?_, hS _ _ _ _ _ _ HR.out.1 (hbt _), ?_⟩
      · exact Nat.le_trans HR4 (hbt _).size
      · rw [HC.out.2.1, HC.out.2.2]; rfl

end Go.Proofs.Ytnhbcpopnhdhiaa
