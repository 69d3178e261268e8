/- SpecWithin: the statement. -/
import Derived.Test.YtkpfebgmfkaglaaSpY
import Derived.Test.YtkpfebgmfkaglaaSpS
import Derived.Test.YtkpfebgmfkaglaaSlT
import Derived.Test.YtkpfebgmfkaglaaReg2
import Derived.StillTailTactics
set_option linter.unusedSimpArgs false
set_option linter.unusedVariables false
namespace Go.Proofs.Ytkpfebgmfkaglaa
open Go.RowKit Go.Shelf
attribute [local irreducible] wpMix

abbrev Tk := Nat × Nat × Nat × Bool
def tC (x : Tk) : List Value := [.int .u8 x.1, .int .u8 x.2.1, .int .u8 x.2.2.1, .bool x.2.2.2]
theorem tC_len (x : Tk) : (tC x).length = 4 := rfl
def wfT (x : Tk) : Prop := x.1 < 256 ∧ x.2.1 < 256 ∧ x.2.2.1 < 256
def byteT (y : Nat) : ByteArray := ⟨#[UInt8.ofNat (97 + y % 4)]⟩
def gvT (x : Tk) : Gv := ((x.1 : Int) % 3, (x.2.1 : Int) % 3, byteT x.2.2.1)

def accT (l : List Tk) : List Pk := pksOf (l.map gvT) 0
def someT (l : List Tk) : List Gv := (l.filter (·.2.2.2)).map gvT
def begT (e : Nat) (l : List Tk) : List Gv := (l.map gvT).take e

theorem accT_snoc {l : List Tk} {k : Nat} {x : Tk} (hp : l[k]? = some x) : accT (l.take (k + 1)) = accT (l.take k) ++ [(((k + 1 : Nat) : Int), gvT x, 0)] := by
  unfold accT
  rw [List.map_take, List.map_take]
  exact pksOf_succ (l.map gvT) k (gvT x) (by rw [List.getElem?_map, hp]; rfl)
theorem someT_snoc {l : List Tk} {k : Nat} {x : Tk} (hp : l[k]? = some x) : someT (l.take (k + 1)) = someT (l.take k) ++ if x.2.2.2 then [gvT x] else [] := by
  unfold someT
  rw [List.take_add_one, hp, Option.toList_some, List.filter_append, List.map_append]
  congr 1
  cases h : x.2.2.2 <;> simp [h]
theorem begT_snoc {l : List Tk} {k e : Nat} {x : Tk} (hp : l[k]? = some x) : begT e (l.take (k + 1)) = begT e (l.take k) ++ if k < e then [gvT x] else [] := by
  have hk : k < l.length := (List.getElem?_eq_some_iff.1 hp).1
  unfold begT
  rw [List.take_add_one, hp, Option.toList_some, List.map_append, List.take_append]
  congr 1
  rw [List.length_map, List.length_take, Nat.min_eq_left (by omega)]
  by_cases h : k < e
  · rw [if_pos h, List.map_cons, List.map_nil, List.take_of_length_le (by simp; omega)]
  · rw [if_neg h, show e - k = 0 by omega]; rfl

theorem wp_convT {o : Oper} {a : Act} {K : Act → World → Prop} {Q : Exit → Act → World → Prop} {w : World} (y g : Nat) (x : Operand) (ho : o.op = Op.convert 33 9 x) (hx : a.eval x = .slice (some ⟨g, 0, none⟩) 1 1)
    (hc : w.cell? ⟨g, 0, none⟩ = some (.int .u8 (97 + (y : Int) % 4))) (h : K (a.put o.dst (.string (byteT y))) w) : o.wp Try.prog a w K Q := by
  have hcv := run_convert_bytes_back (P := Try.prog) w 33 9 5 ⟨g, 0, none⟩ 1 [UInt8.ofNat (97 + y % 4)] Try.underlying33 Try.underlying5 Try.underlying9
    (fun j hj => by
      match j, hj with
      | 0, _ =>
        rw [Addr.add_lit, hc]
        have : (UInt8.ofNat (97 + y % 4)).toNat = 97 + y % 4 := by simp; omega
        simp only [List.getElem_cons_zero, this]
        simp)
  unfold Oper.wp
  have e : (⟨[UInt8.ofNat (97 + y % 4)].toArray⟩ : ByteArray) = byteT y := rfl
  rw [e] at hcv
  simp only [List.length_cons, List.length_nil, Nat.zero_add] at hcv
  simp [execOp, ho, hx, hcv, Result.andThen]
  exact h

theorem gvT_wf {ls : List Tk} (h : ∀ x ∈ ls, wfT x) : ∀ g ∈ ls.map gvT, wfG g := fun g hg => by
  obtain ⟨x, hx, rfl⟩ := List.mem_map.1 hg
  have := h x hx
  have wf3 : ∀ n : Nat, (Lit.int .i64 ((n : Int) % 3)).wf = true := fun n => by
    have h1 : (0 : Int) ≤ (n : Int) % 3 ∧ (n : Int) % 3 < 3 := by omega
    simp [Lit.wf, IntKind.min, IntKind.max, IntKind.signed, IntKind.bits]
    omega
  exact ⟨wf3 _, wf3 _⟩
theorem someT_sub (ls : List Tk) : (someT ls).Sublist (ls.map gvT) := (List.filter_sublist).map _
def zzG : Gv := (1, 1, ⟨#[122, 122]⟩)
theorem zz_not (ls : List Tk) (t c : Int) : zzG.2.2 ∉ ofK (ls.map gvT) t c := by
  unfold ofK
  intro h
  obtain ⟨g, hg, he⟩ := List.mem_map.1 h
  obtain ⟨x, _, rfl⟩ := List.mem_map.1 (List.mem_filter.1 hg).1
  have := congrArg ByteArray.size he
  simp [gvT, byteT, zzG, ByteArray.size] at this

set_option maxRecDepth 1000000 in
set_option maxHeartbeats 8000000 in
theorem within_any (A1 : Option Addr) (cap1 : Nat) (l : List Tk) (en : Nat) (w : World) (hen : en < 256) (hc1 : l.length ≤ cap1 ∧ cap1 ≤ maxLen)
    (h1 : SlAt w 4 (.slice A1 l.length cap1) l.length (l.flatMap tC)) (hw : ∀ x ∈ l, wfT x) :
    Calls Try.prog 5 #[.slice A1 l.length cap1, .int .u8 (en : Nat)] w fun e w' => e = .returned (.bool true) ∧ Below w.heap.size w w' := by
  have HF := Lib.hid (And.intro h1 hw)
  clear h1 hw
  obtain ⟨hc1, hm1⟩ := hc1
  unfold maxLen at hm1
  go_enter Try.func5, Try.ntmps5
  go_wp2_with fail
  refine (works_yes _).mono ?_
  rintro e w1 ⟨rfl, hb1⟩
  have S0 : Sep w.heap.size w w1 [SlT w.heap.size 38 5 (.slice none 0 0) 0 [], SlT w.heap.size 35 3 (.slice none 0 0) 0 [], SlT w.heap.size 35 3 (.slice none 0 0) 0 []] :=
    ((((Sep.nil w).below hb1).nilS w.heap.size 38 5).nilS w.heap.size 35 3).nilS w.heap.size 35 3
  have H0 := Lib.hid S0
  clear S0 hb1
  go_wp2_with fail
  go_loopg [5, 6, 7, 8] 60 (fun gk a b c p wr => ∃ (k : Nat) (A : List Pk) (S B : List Gv), k ≤ 60 ∧ k ≤ l.length ∧ 60 - k = gk ∧ p = .int .i64 (k : Nat) ∧ A = accT (l.take k) ∧ S = someT (l.take k) ∧ B = begT en (l.take k) ∧
    Sep w.heap.size w wr [SlT w.heap.size 38 5 a A.length (A.flatMap pC), SlT w.heap.size 35 3 b S.length (S.flatMap gC), SlT w.heap.size 35 3 c B.length (B.flatMap gC)])
  case atStart => exact ⟨0, [], [], [], by omega, by omega, rfl, rfl, by simp [accT, pksOf], by simp [someT], by simp [begT], H0.out⟩
  case round =>
    obtain ⟨k, A, S, B, hk60, hkl, rfl, rfl, hA, hS, hB, hsep⟩ := hrel
    have hAl : A.length = k := by rw [hA, accT, pksOf_len]; simp; omega
    have hSl : S.length ≤ k := by rw [hS, someT]; rw [List.length_map]; exact Nat.le_trans (List.length_filter_le _ _) (by simp; omega)
    have hBl : B.length ≤ k := by rw [hB, begT]; simp; omega
    obtain ⟨Aa, ca, rfl, hca⟩ := (hsep.own 0 rfl).len
    obtain ⟨Ab, cb, rfl, hcb⟩ := (hsep.own 1 rfl).len
    obtain ⟨Ac, cc, rfl, hcc⟩ := (hsep.own 2 rfl).len
    have HS := Lib.hid (And.intro hsep (And.intro hA (And.intro hS (And.intro hB (And.intro hAl (And.intro hSl hBl))))))
    clear hsep hA hS hB H0 hAl hSl hBl
    by_cases hlt : k < l.length ∧ k < 60
    · obtain ⟨hl1, hl2⟩ := hlt
      have g1 : decide ((k : Int) < 60) = true := by rw [decide_eq_true_iff]; omega
      have g2 : decide ((k : Int) < (l.length : Int)) = true := by rw [decide_eq_true_iff]; omega
      have g2' : (k : Int) < (l.length : Int) := by omega
      obtain ⟨⟨t, c, y, gb⟩, hp⟩ : ∃ p, l[k]? = some p := ⟨_, List.getElem?_eq_getElem hl1⟩
      obtain ⟨b, o, rfl, hbl, hx⟩ := sl_elem tC_len HF.out.1 hp rfl
      have hwt := HF.out.2 _ (List.mem_of_getElem? hp)
      obtain ⟨ht, hc, hy⟩ := hwt
      simp only at ht hc hy
      have q0 : ∀ X : Cls fun W => Below w.heap.size w W, X.W.cell? ⟨b, o + k * 4, none⟩ = some (.int .u8 t) := fun X => (X.h.cell (p := ⟨b, _, none⟩) hbl).trans (hx 0 _ (by omega) rfl)
      have q1 : ∀ X : Cls fun W => Below w.heap.size w W, X.W.cell? ⟨b, o + k * 4 + 1, none⟩ = some (.int .u8 c) := fun X => (X.h.cell (p := ⟨b, _, none⟩) hbl).trans (hx 1 _ (by omega) rfl)
      have q2 : ∀ X : Cls fun W => Below w.heap.size w W, X.W.cell? ⟨b, o + k * 4 + 2, none⟩ = some (.int .u8 y) := fun X => (X.h.cell (p := ⟨b, _, none⟩) hbl).trans (hx 2 _ (by omega) rfl)
      have HP := Lib.hid (And.intro hp (And.intro hbl (hx 3 _ (by omega) rfl)))
      have hle := HS.out.1.size
      clear hx hp hbl
      go_upto_region 8 with fail
      go_cut [9] from 23 to 46 (fun v wx => ∃ bx, v = .pointer (some ⟨bx, 0, none⟩) ∧ Sep w.heap.size w wx [SlT w.heap.size 38 5 (.slice Aa A.length ca) A.length (A.flatMap pC), SlT w.heap.size 35 3 (.slice Ab S.length cb) S.length (S.flatMap gC), SlT w.heap.size 35 3 (.slice Ac B.length cc) B.length (B.flatMap gC),
        BlkT bx 35 #[.int .i64 ((t : Int) % 3), .int .i64 ((c : Int) % 3), .string (byteT y)]])
      case first =>
        refine wp_region_lin (by kernel_rfl) (wpLin_split 21 24 (by decide) (wpLin_split 22 24 (by decide) ?_ ?_) ?_)
        · refine wpLin_ord2 21 24 22 24 [0, 1, 2, 3, 4, 5, 6, 7, 8, 9, 10, 11, 12, 13, 14, 15, 16, 17, 18, 19, 20, 21, 22, 23, 24, 25] [21, 22, 24, 25] (fun W => Below w.heap.size w W) (by kernel_rfl) (HS.out.1.world.drew) (fun _ => ?_)
          iterate 21 (refine mixO_read (by rfl) (by rfl) (by rfl) (by rfl) (by rfl) (by simp) ?_; apply Exists.intro; apply Exists.intro; refine ⟨fun w' hw' K hK => ?_, ?_, ?_⟩; (obtain ⟨X, rfl⟩ := hw'; go_wp2_with fail; first | exact ⟨rfl, rfl⟩ | exact rfl); rfl)
          (refine mixO_act (by rfl) (by rfl) (by rfl) (fun K hK => ?_))
          go_wp2_with fail
          refine ⟨.mk ((HS.out.1.world.alloc hle _).drew), ?_⟩
          (refine mixO_act (by rfl) (by rfl) (by rfl) (fun K hK => ?_))
          refine wp_convT y wr.heap.size (.tmp 44) rfl rfl (by simp) ?_
          refine hK _ _ ⟨.mk ((HS.out.1.world.alloc hle _).drew), ?_⟩
          (simp [Act.put])
          iterate 1 (refine mixO_read (by rfl) (by rfl) (by rfl) (by rfl) (by rfl) (by simp) ?_; apply Exists.intro; apply Exists.intro; refine ⟨fun w' hw' K hK => ?_, ?_, ?_⟩; (obtain ⟨X, rfl⟩ := hw'; go_wp2_with fail; first | exact ⟨rfl, rfl⟩ | exact rfl); rfl)
          (refine mixO_act (by rfl) (by rfl) (by rfl) (fun K hK => ?_))
          go_wp2_with fail
          refine ⟨.mk (((HS.out.1.world.alloc hle _).alloc (by simp; omega) _).drew), ?_⟩
          (refine mixO_last (by rfl) (by rfl) (by rfl) (by kernel_rfl) (fun K hK => ?_))
          go_wp2_with fail
          go_meet
          refine ⟨_, rfl, ?_⟩
          exact HS.out.1.newBlk ((Blk.new _ _ _).drew.same_g (by simp)) (by omega) (((Below.refl _ _).alloc (Nat.le_refl _) _).alloc (by simp) _).drew
        · refine wpLin_ord2 21 24 24 22 [0, 1, 2, 3, 4, 5, 6, 7, 8, 9, 10, 11, 12, 13, 14, 15, 16, 17, 18, 19, 20, 21, 24, 22, 23, 25] [21, 22, 24, 25] (fun W => Below w.heap.size w W) (by kernel_rfl) (HS.out.1.world.drew) (fun _ => ?_)
          iterate 21 (refine mixO_read (by rfl) (by rfl) (by rfl) (by rfl) (by rfl) (by simp) ?_; apply Exists.intro; apply Exists.intro; refine ⟨fun w' hw' K hK => ?_, ?_, ?_⟩; (obtain ⟨X, rfl⟩ := hw'; go_wp2_with fail; first | exact ⟨rfl, rfl⟩ | exact rfl); rfl)
          (refine mixO_act (by rfl) (by rfl) (by rfl) (fun K hK => ?_))
          go_wp2_with fail
          refine ⟨.mk ((HS.out.1.world.alloc hle _).drew), ?_⟩
          (refine mixO_act (by rfl) (by rfl) (by rfl) (fun K hK => ?_))
          go_wp2_with fail
          refine ⟨.mk (((HS.out.1.world.alloc hle _).alloc (by simp; omega) _).drew), ?_⟩
          (refine mixO_act (by rfl) (by rfl) (by rfl) (fun K hK => ?_))
          refine wp_convT y wr.heap.size (.tmp 44) rfl rfl (by simp) ?_
          refine hK _ _ ⟨.mk (((HS.out.1.world.alloc hle _).alloc (by simp; omega) _).drew), ?_⟩
          (simp [Act.put])
          iterate 1 (refine mixO_read (by rfl) (by rfl) (by rfl) (by rfl) (by rfl) (by simp) ?_; apply Exists.intro; apply Exists.intro; refine ⟨fun w' hw' K hK => ?_, ?_, ?_⟩; (obtain ⟨X, rfl⟩ := hw'; go_wp2_with fail; first | exact ⟨rfl, rfl⟩ | exact rfl); rfl)
          (refine mixO_last (by rfl) (by rfl) (by rfl) (by kernel_rfl) (fun K hK => ?_))
          go_wp2_with fail
          go_meet
          refine ⟨_, rfl, ?_⟩
          exact HS.out.1.newBlk ((Blk.new _ _ _).drew.same_g (by simp)) (by omega) (((Below.refl _ _).alloc (Nat.le_refl _) _).alloc (by simp) _).drew
        · refine wpLin_ord1 24 21 [0, 1, 2, 3, 4, 5, 6, 7, 8, 9, 10, 11, 12, 13, 14, 15, 16, 17, 18, 19, 20, 24, 21, 22, 23, 25] [21, 22, 24, 25] (fun W => Below w.heap.size w W) (by kernel_rfl) (HS.out.1.world.drew) (fun _ => ?_)
          iterate 21 (refine mixO_read (by rfl) (by rfl) (by rfl) (by rfl) (by rfl) (by simp) ?_; apply Exists.intro; apply Exists.intro; refine ⟨fun w' hw' K hK => ?_, ?_, ?_⟩; (obtain ⟨X, rfl⟩ := hw'; go_wp2_with fail; first | exact ⟨rfl, rfl⟩ | exact rfl); rfl)
          (refine mixO_act (by rfl) (by rfl) (by rfl) (fun K hK => ?_))
          go_wp2_with fail
          refine ⟨.mk ((HS.out.1.world.alloc hle _).drew), ?_⟩
          (refine mixO_act (by rfl) (by rfl) (by rfl) (fun K hK => ?_))
          go_wp2_with fail
          refine ⟨.mk (((HS.out.1.world.alloc hle _).alloc (by simp; omega) _).drew), ?_⟩
          (refine mixO_act (by rfl) (by rfl) (by rfl) (fun K hK => ?_))
          refine wp_convT y (wr.heap.size + 1) (.tmp 44) rfl rfl (by simp) ?_
          refine hK _ _ ⟨.mk (((HS.out.1.world.alloc hle _).alloc (by simp; omega) _).drew), ?_⟩
          (simp [Act.put])
          iterate 1 (refine mixO_read (by rfl) (by rfl) (by rfl) (by rfl) (by rfl) (by simp) ?_; apply Exists.intro; apply Exists.intro; refine ⟨fun w' hw' K hK => ?_, ?_, ?_⟩; (obtain ⟨X, rfl⟩ := hw'; go_wp2_with fail; first | exact ⟨rfl, rfl⟩ | exact rfl); rfl)
          (refine mixO_last (by rfl) (by rfl) (by rfl) (by kernel_rfl) (fun K hK => ?_))
          go_wp2_with fail
          go_meet
          refine ⟨_, rfl, ?_⟩
          exact HS.out.1.newBlk ((Blk.new wr _ _).alloc _).drew (Nat.le_refl _) (((Below.refl _ _).alloc (Nat.le_refl _) _).alloc (by simp) _).drew
      case rest =>
        obtain ⟨bx, rfl, hs8⟩ := hcut
        have d0 := (hs8.blk 3 rfl).cell 0
        have d1 := (hs8.blk 3 rfl).cell 1
        have d2 := (hs8.blk 3 rfl).cell 2
        have H8 := Lib.hid hs8
        have hAl := HS.out.2.2.2.2.1
        have hSl := HS.out.2.2.2.2.2.1
        have hBl := HS.out.2.2.2.2.2.2
        have hAl' : A.length ≤ 1000000 := by omega
        have HL := Lib.hid (And.intro hAl hAl')
        clear hs8 q0 q1 q2 hAl hAl'
        go_upto_region 10 with (first
          | (at_builtin; refine wpList_append_new rfl (.tmp 47) (.tmp 58) 23 rfl w.heap.size 38 _ 5 48 pk_info Try.underlying23 rfl (by decide) (by decide) _ _ _ rfl (H8.out.own 0 rfl) #[.int .u64 ((k : Int) + 1), .int .i64 ((t : Int) % 3), .int .i64 ((c : Int) % 3), .string (byteT y), .int .u64 0] _ rfl rfl rfl rfl H8.out.size HL.out.2 ?_; intro v' w2 ho2 hg2 hv2; obtain ⟨A3, cap3, rfl, hcap3⟩ := ho2.len; have s2 := H8.out.grow 0 rfl ho2 hg2 hv2; clear d0 d1 d2; have d0 := (s2.blk 3 rfl).cell 0; have d1 := (s2.blk 3 rfl).cell 1; have d2 := (s2.blk 3 rfl).cell 2; have H9 := Lib.hid s2; clear s2 ho2 hg2 hv2 hcap3))
        have e3 := (H9.out.world.cell (p := ⟨b, _, none⟩) HP.out.2.1).trans HP.out.2.2
        rw [← Nat.add_assoc] at e3
        have hAx : A ++ [(((k + 1 : Nat) : Int), gvT (t, c, y, gb), 0)] = accT (l.take (k + 1)) := by rw [accT_snoc HP.out.1, ← HS.out.2.1]
        have hSx := someT_snoc HP.out.1
        have hBx := begT_snoc (e := en) HP.out.1
        rw [← HS.out.2.2.1] at hSx
        rw [← HS.out.2.2.2.1] at hBx
        have HX := Lib.hid (And.intro hAx (And.intro hSx hBx))
        clear hAx hSx hBx
        cases gb with
        | false =>
          by_cases hke : k < en
          · have g5 : decide ((k : Int) < (en : Int)) = true := by rw [decide_eq_true_iff]; omega
            have HK := Lib.hid hke
            go_wp2_with (first
              | (at_builtin; refine wpList_append_new rfl (.tmp 73) (.tmp 75) 22 rfl w.heap.size 35 _ 3 32 gv_info Try.underlying22 rfl (by decide) (by decide) _ _ _ rfl (H9.out.own 2 rfl) #[.int .i64 ((t : Int) % 3), .int .i64 ((c : Int) % 3), .string (byteT y)] _ rfl rfl rfl rfl H9.out.size (Nat.le_trans hBl (by omega)) ?_; intro v' w2 ho2 hg2 hv2; obtain ⟨A3, cap3, rfl, hcap3⟩ := ho2.len; have s2 := H9.out.grow 2 rfl ho2 hg2 hv2; have d0 := (s2.blk 3 rfl).cell 0; have d1 := (s2.blk 3 rfl).cell 1; have d2 := (s2.blk 3 rfl).cell 2; have H13 := Lib.hid s2; clear s2 ho2 hg2 hv2 hcap3))
            go_roundg (60 - (k + 1))
            case measure => omega
            case rel =>
              have h1 := HX.out.2.1
              have h2 := HX.out.2.2
              simp only [if_true, if_false, Bool.false_eq_true, List.append_nil] at h1
              rw [if_pos HK.out] at h2
              refine ⟨k + 1, A ++ [(((k + 1 : Nat) : Int), gvT (t, c, y, false), 0)], S, B ++ [gvT (t, c, y, false)], by omega, by omega, rfl, by go_num, HX.out.1, h1.symm, h2.symm, ?_⟩
              have hs := H13.out.dropLast (L := [_, _, _])
              simp only [List.length_append, List.flatMap_append]
              exact hs
          · have g5 : decide ((k : Int) < (en : Int)) = false := by rw [decide_eq_false_iff_not]; omega
            have HK := Lib.hid hke
            go_wp2_with fail
            go_roundg (60 - (k + 1))
            case measure => omega
            case rel =>
              have h1 := HX.out.2.1
              have h2 := HX.out.2.2
              simp only [if_true, if_false, Bool.false_eq_true, List.append_nil] at h1
              rw [if_neg HK.out, List.append_nil] at h2
              refine ⟨k + 1, A ++ [(((k + 1 : Nat) : Int), gvT (t, c, y, false), 0)], S, B, by omega, by omega, rfl, by go_num, HX.out.1, h1.symm, h2.symm, ?_⟩
              have hs := H9.out.dropLast (L := [_, _, _])
              simp only [List.length_append, List.flatMap_append]
              exact hs
        | true =>
          by_cases hke : k < en
          · have g5 : decide ((k : Int) < (en : Int)) = true := by rw [decide_eq_true_iff]; omega
            have HK := Lib.hid hke
            go_wp2_with (first
              | (at_builtin; refine wpList_append_new rfl (.tmp 65) (.tmp 67) 22 rfl w.heap.size 35 _ 3 32 gv_info Try.underlying22 rfl (by decide) (by decide) _ _ _ rfl (H9.out.own 1 rfl) #[.int .i64 ((t : Int) % 3), .int .i64 ((c : Int) % 3), .string (byteT y)] _ rfl rfl rfl rfl H9.out.size (Nat.le_trans hSl (by omega)) ?_; intro v' w2 ho2 hg2 hv2; obtain ⟨A3, cap3, rfl, hcap3⟩ := ho2.len; have s2 := H9.out.grow 1 rfl ho2 hg2 hv2; have d0 := (s2.blk 3 rfl).cell 0; have d1 := (s2.blk 3 rfl).cell 1; have d2 := (s2.blk 3 rfl).cell 2; have H11 := Lib.hid s2; clear s2 ho2 hg2 hv2 hcap3)
              | (at_builtin; refine wpList_append_new rfl (.tmp 73) (.tmp 75) 22 rfl w.heap.size 35 _ 3 32 gv_info Try.underlying22 rfl (by decide) (by decide) _ _ _ rfl (H11.out.own 2 rfl) #[.int .i64 ((t : Int) % 3), .int .i64 ((c : Int) % 3), .string (byteT y)] _ rfl rfl rfl rfl H11.out.size (Nat.le_trans hBl (by omega)) ?_; intro v' w2 ho2 hg2 hv2; obtain ⟨A3, cap3, rfl, hcap3⟩ := ho2.len; have s2 := H11.out.grow 2 rfl ho2 hg2 hv2; have d0 := (s2.blk 3 rfl).cell 0; have d1 := (s2.blk 3 rfl).cell 1; have d2 := (s2.blk 3 rfl).cell 2; have H13 := Lib.hid s2; clear s2 ho2 hg2 hv2 hcap3))
            go_roundg (60 - (k + 1))
            case measure => omega
            case rel =>
              have h1 := HX.out.2.1
              have h2 := HX.out.2.2
              simp only [if_true, if_false, Bool.false_eq_true, List.append_nil] at h1
              rw [if_pos HK.out] at h2
              refine ⟨k + 1, A ++ [(((k + 1 : Nat) : Int), gvT (t, c, y, true), 0)], S ++ [gvT (t, c, y, true)], B ++ [gvT (t, c, y, true)], by omega, by omega, rfl, by go_num, HX.out.1, h1.symm, h2.symm, ?_⟩
              have hs := H13.out.dropLast (L := [_, _, _])
              simp only [List.length_append, List.flatMap_append]
              exact hs
          · have g5 : decide ((k : Int) < (en : Int)) = false := by rw [decide_eq_false_iff_not]; omega
            have HK := Lib.hid hke
            go_wp2_with (first
              | (at_builtin; refine wpList_append_new rfl (.tmp 65) (.tmp 67) 22 rfl w.heap.size 35 _ 3 32 gv_info Try.underlying22 rfl (by decide) (by decide) _ _ _ rfl (H9.out.own 1 rfl) #[.int .i64 ((t : Int) % 3), .int .i64 ((c : Int) % 3), .string (byteT y)] _ rfl rfl rfl rfl H9.out.size (Nat.le_trans hSl (by omega)) ?_; intro v' w2 ho2 hg2 hv2; obtain ⟨A3, cap3, rfl, hcap3⟩ := ho2.len; have s2 := H9.out.grow 1 rfl ho2 hg2 hv2; have d0 := (s2.blk 3 rfl).cell 0; have d1 := (s2.blk 3 rfl).cell 1; have d2 := (s2.blk 3 rfl).cell 2; have H11 := Lib.hid s2; clear s2 ho2 hg2 hv2 hcap3))
            go_roundg (60 - (k + 1))
            case measure => omega
            case rel =>
              have h1 := HX.out.2.1
              have h2 := HX.out.2.2
              simp only [if_true, if_false, Bool.false_eq_true, List.append_nil] at h1
              rw [if_neg HK.out, List.append_nil] at h2
              refine ⟨k + 1, A ++ [(((k + 1 : Nat) : Int), gvT (t, c, y, true), 0)], S ++ [gvT (t, c, y, true)], B, by omega, by omega, rfl, by go_num, HX.out.1, h1.symm, h2.symm, ?_⟩
              have hs := H11.out.dropLast (L := [_, _, _])
              simp only [List.length_append, List.flatMap_append]
              exact hs
    · have hfin : l.take k = l.take 60 := by
        by_cases h : k < l.length
        · rw [show k = 60 by omega]
        · rw [List.take_of_length_le (show l.length ≤ k by omega), List.take_of_length_le (show l.length ≤ 60 by omega)]
      generalize hls : l.take k = ls at *
      have hlsl : ls.length ≤ 60 := by rw [← hls]; simp; omega
      have hwl : ∀ x ∈ ls, wfT x := fun x hx => HF.out.2 x (by rw [← hls] at hx; exact List.mem_of_mem_take hx)
      have hor : (decide ((k : Int) < (l.length : Int)) = false) ∨ (decide ((k : Int) < (l.length : Int)) = true ∧ decide ((k : Int) < 60) = false) := by
        by_cases h : k < l.length
        · right; exact ⟨by rw [decide_eq_true_iff]; omega, by rw [decide_eq_false_iff_not]; omega⟩
        · left; rw [decide_eq_false_iff_not]; omega
      have HLS := Lib.hid (And.intro hlsl hwl)
      clear hlt hls hfin hlsl hwl
      go_upto_region 6 with fail
      go_cut [20] from 13 to 20 (fun v wx => v = .bool false ∧ wx = wr)
      case first =>
        rcases hor with g | ⟨g, g'⟩
        · go_wp2_with fail
          all_goals (go_meet; first | exact ⟨rfl, rfl⟩ | (exfalso; have := of_decide_eq_false g; omega) | (refine ⟨?_, rfl⟩; have := of_decide_eq_false g; simp; omega))
        · go_wp2_with fail
          all_goals (go_meet; first | exact ⟨rfl, rfl⟩ | (refine ⟨?_, rfl⟩; have := of_decide_eq_false g'; simp; omega))
      case rest =>
        obtain ⟨rfl, rfl⟩ := hcut
        clear hor
        have hA := HS.out.2.1
        have hG : A.map (·.2.1) = ls.map gvT := by rw [hA]; exact pksOf_gv _ _
        have hwA : ∀ p ∈ A, wfG p.2.1 := by rw [hA]; exact pks_wf (gvT_wf HLS.out.2) 0
        have hwS : ∀ g ∈ S, wfG g := fun g hg => gvT_wf HLS.out.2 g (by rw [HS.out.2.2.1] at hg; exact (someT_sub ls).subset hg)
        have hwB : ∀ g ∈ B, wfG g := fun g hg => gvT_wf HLS.out.2 g (by rw [HS.out.2.2.2.1] at hg; exact List.mem_of_mem_take hg)
        have hnA : A.length ≤ 1000000 := by have := HS.out.2.2.2.2.1; omega
        have r1 : firstF stepW (ofK (A.map (·.2.1))) S 0 = -1 := firstW_sub _ _ _ (fun t c => by rw [hG, HS.out.2.2.1]; exact ofK_sub (someT_sub ls) t c)
        have r2 : firstF stepP (ofK (A.map (·.2.1))) B 0 = -1 := firstP_pre _ _ _ (fun t c => by rw [hG, HS.out.2.2.2.1]; exact ofK_pre (List.take_prefix _ _) t c)
        have r3 : firstF stepW (ofK (A.map (·.2.1))) B 0 = -1 := firstW_sub _ _ _ (fun t c => by rw [hG, HS.out.2.2.2.1]; exact ofK_sub (List.take_sublist _ _) t c)
        have hzz : ∀ t c, zzG.2.2 ∉ ofK (A.map (·.2.1)) t c := by rw [hG]; exact zz_not ls
        have r4 : firstF stepP (ofK (A.map (·.2.1))) (B ++ [zzG]) 0 = (B.length : Int) := by rw [first_more fairP zzG B _ 0 hzz r2]; simp
        have r5 : firstF stepW (ofK (A.map (·.2.1))) (B ++ [zzG]) 0 = (B.length : Int) := by rw [first_more fairW zzG B _ 0 hzz r3]; simp
        obtain ⟨x, hx⟩ : ∃ x, firstF stepP (ofK (A.map (·.2.1))) S 0 = x := ⟨_, rfl⟩
        have HR := Lib.hid (And.intro r1 (And.intro r2 (And.intro r3 (And.intro r4 (And.intro r5 hx)))))
        have HW := Lib.hid (And.intro hwA (And.intro hwS (And.intro hwB hnA)))
        have H0 := Lib.hid HS.out.1
        have hB6 : B.length ≤ 60 := by have := HS.out.2.2.2.2.2.2; omega
        clear hA hG hwA hwS hwB hnA r1 r2 r3 hzz r4 r5 hx HS
        go_wp2_with fail
        have p1 := Within_ok _ _ S A _ (H0.out.own 1 rfl).sl HW.out.2.1 (H0.out.own 0 rfl).sl HW.out.1 HW.out.2.2.2
        rw [HR.out.1] at p1
        refine p1.mono ?_
        clear p1
        rintro e w3 ⟨rfl, hb⟩
        have H1 := Lib.hid (H0.out.below hb)
        clear hb
        go_wp2_with fail
        have p1 := Prefix_ok _ _ B A _ (H1.out.own 2 rfl).sl HW.out.2.2.1 (H1.out.own 0 rfl).sl HW.out.1 HW.out.2.2.2
        rw [HR.out.2.1] at p1
        refine p1.mono ?_
        clear p1
        rintro e w4 ⟨rfl, hb⟩
        have H2 := Lib.hid (H1.out.below hb)
        clear hb
        go_wp2_with fail
        have p1 := Within_ok _ _ B A _ (H2.out.own 2 rfl).sl HW.out.2.2.1 (H2.out.own 0 rfl).sl HW.out.1 HW.out.2.2.2
        rw [HR.out.2.2.1] at p1
        refine p1.mono ?_
        clear p1
        rintro e w5 ⟨rfl, hb⟩
        have H3 := Lib.hid (H2.out.below hb)
        clear hb
        go_wp2_with fail
        have p1 := Prefix_ok _ _ S A _ (H3.out.own 1 rfl).sl HW.out.2.1 (H3.out.own 0 rfl).sl HW.out.1 HW.out.2.2.2
        rw [HR.out.2.2.2.2.2] at p1
        refine p1.mono ?_
        clear p1
        rintro e w6 ⟨rfl, hb⟩
        have H4 := Lib.hid (H3.out.below hb)
        clear hb
        by_cases hx1 : x = -1
        · have gx : (x == -1) = true := by simpa using hx1
          go_wp2_with fail
          have p1 := Within_ok _ _ S A _ (H4.out.own 1 rfl).sl HW.out.2.1 (H4.out.own 0 rfl).sl HW.out.1 HW.out.2.2.2
          rw [HR.out.1] at p1
          refine p1.mono ?_
          clear p1
          rintro e w7 ⟨rfl, hb⟩
          have H5 := Lib.hid (H4.out.below hb)
          clear hb
          have hl1 : ∀ u ∈ B.flatMap gC, u.oneCell' = true := fun u hu => by
            obtain ⟨g, _, hg⟩ := List.mem_flatMap.1 hu
            simp [gC] at hg
            rcases hg with rfl | rfl | rfl <;> rfl
          have hB6' : B.length ≤ 1000000 := by omega
          have hlw := H5.out.size
          have H18 := Lib.hid (And.intro ((H5.out.own 2 rfl).sl.below ((Below.refl _ _).alloc (Nat.le_refl _) _) : SlAt (w7.alloc (.cells #[] 35)) 3 _ B.length (B.flatMap gC)) hl1)
          clear hl1
          go_upto_region 19 with (first
            | (at_builtin; refine wpList_append_spread rfl (.tmp 103) (.tmp 104) 22 rfl w7.heap.size 35 _ 3 32 gv_info Try.underlying22 rfl (by decide) (by decide) w7.heap.size rfl (Blk.new _ _ _) (Nat.le_refl _) _ B.length _ rfl H18.out.1 H18.out.2 hB6' ?_; intro v' w8 ho8 hb8; obtain ⟨A8, c8, rfl, hc8⟩ := ho8.len; have H8 := Lib.hid (And.intro ho8 hb8); clear ho8 hb8 hc8)
            | (at_builtin; refine wpList_append_new rfl (.tmp 105) (.tmp 107) 22 rfl w7.heap.size 35 _ 3 32 gv_info Try.underlying22 rfl (by decide) (by decide) _ _ _ rfl H8.out.1 #[.int .i64 1, .int .i64 1, .string ⟨#[122, 122]⟩] _ rfl rfl rfl rfl (Nat.le_trans (by simp) H8.out.2.size) hB6' ?_; intro v' w9 ho9 hg9 hv9; obtain ⟨A9, c9, rfl, hc9⟩ := ho9.len; have H9 := Lib.hid (And.intro ho9 hg9); clear ho9 hg9 hv9 hc9))
          have hs9 : SlAt w9 3 (.slice A9 (B.length + 1) c9) (B ++ [zzG]).length ((B ++ [zzG]).flatMap gC) := by
            have := H9.out.1.sl
            rw [List.length_append, List.flatMap_append]
            exact this
          have hb9 : Below w7.heap.size w7 w9 := (((Below.refl _ _).alloc (Nat.le_refl _) _).trans H8.out.2).trans (below_grown H9.out.2 (fun j hj => (H8.out.1.lt j hj).1) (Nat.le_trans (by simp) H8.out.2.size))
          have HE := Lib.hid (And.intro hs9 (H5.out.below hb9))
          have hwz : ∀ g ∈ B ++ [zzG], wfG g := fun g hg => by
            rcases List.mem_append.1 hg with h | h
            · exact HW.out.2.2.1 g h
            · rw [List.mem_singleton.1 h]; exact ⟨rfl, rfl⟩
          have HZ := Lib.hid hwz
          clear hs9 hb9 hwz H8 H9 H18
          go_wp2_with fail
          have p1 := Prefix_ok _ _ (B ++ [zzG]) A _ HE.out.1 HZ.out (HE.out.2.own 0 rfl).sl HW.out.1 HW.out.2.2.2
          rw [HR.out.2.2.2.1] at p1
          refine p1.mono ?_
          clear p1
          rintro e wa ⟨rfl, hb⟩
          have HA := Lib.hid (And.intro (HE.out.1.below hb) (HE.out.2.below hb))
          clear hb
          go_wp2_with fail
          have p1 := Within_ok _ _ (B ++ [zzG]) A _ HA.out.1 HZ.out (HA.out.2.own 0 rfl).sl HW.out.1 HW.out.2.2.2
          rw [HR.out.2.2.2.2.1] at p1
          refine p1.mono ?_
          clear p1
          rintro e wb ⟨rfl, hb⟩
          have HB := Lib.hid (HA.out.2.below hb).world
          clear hb
          go_wp2_with fail
          go_ret
          exact ⟨rfl, HB.out⟩
        · have gx : (x == -1) = false := by simpa using hx1
          have hl1 : ∀ u ∈ B.flatMap gC, u.oneCell' = true := fun u hu => by
            obtain ⟨g, _, hg⟩ := List.mem_flatMap.1 hu
            simp [gC] at hg
            rcases hg with rfl | rfl | rfl <;> rfl
          have hB6' : B.length ≤ 1000000 := by omega
          have hlw := H4.out.size
          have H18 := Lib.hid (And.intro ((H4.out.own 2 rfl).sl.below ((Below.refl _ _).alloc (Nat.le_refl _) _) : SlAt (w6.alloc (.cells #[] 35)) 3 _ B.length (B.flatMap gC)) hl1)
          clear hl1
          go_upto_region 19 with (first
            | (at_builtin; refine wpList_append_spread rfl (.tmp 103) (.tmp 104) 22 rfl w6.heap.size 35 _ 3 32 gv_info Try.underlying22 rfl (by decide) (by decide) w6.heap.size rfl (Blk.new _ _ _) (Nat.le_refl _) _ B.length _ rfl H18.out.1 H18.out.2 hB6' ?_; intro v' w8 ho8 hb8; obtain ⟨A8, c8, rfl, hc8⟩ := ho8.len; have H8 := Lib.hid (And.intro ho8 hb8); clear ho8 hb8 hc8)
            | (at_builtin; refine wpList_append_new rfl (.tmp 105) (.tmp 107) 22 rfl w6.heap.size 35 _ 3 32 gv_info Try.underlying22 rfl (by decide) (by decide) _ _ _ rfl H8.out.1 #[.int .i64 1, .int .i64 1, .string ⟨#[122, 122]⟩] _ rfl rfl rfl rfl (Nat.le_trans (by simp) H8.out.2.size) hB6' ?_; intro v' w9 ho9 hg9 hv9; obtain ⟨A9, c9, rfl, hc9⟩ := ho9.len; have H9 := Lib.hid (And.intro ho9 hg9); clear ho9 hg9 hv9 hc9))
          have hs9 : SlAt w9 3 (.slice A9 (B.length + 1) c9) (B ++ [zzG]).length ((B ++ [zzG]).flatMap gC) := by
            have := H9.out.1.sl
            rw [List.length_append, List.flatMap_append]
            exact this
          have hb9 : Below w6.heap.size w6 w9 := (((Below.refl _ _).alloc (Nat.le_refl _) _).trans H8.out.2).trans (below_grown H9.out.2 (fun j hj => (H8.out.1.lt j hj).1) (Nat.le_trans (by simp) H8.out.2.size))
          have HE := Lib.hid (And.intro hs9 (H4.out.below hb9))
          have hwz : ∀ g ∈ B ++ [zzG], wfG g := fun g hg => by
            rcases List.mem_append.1 hg with h | h
            · exact HW.out.2.2.1 g h
            · rw [List.mem_singleton.1 h]; exact ⟨rfl, rfl⟩
          have HZ := Lib.hid hwz
          clear hs9 hb9 hwz H8 H9 H18
          go_wp2_with fail
          have p1 := Prefix_ok _ _ (B ++ [zzG]) A _ HE.out.1 HZ.out (HE.out.2.own 0 rfl).sl HW.out.1 HW.out.2.2.2
          rw [HR.out.2.2.2.1] at p1
          refine p1.mono ?_
          clear p1
          rintro e wa ⟨rfl, hb⟩
          have HA := Lib.hid (And.intro (HE.out.1.below hb) (HE.out.2.below hb))
          clear hb
          go_wp2_with fail
          have p1 := Within_ok _ _ (B ++ [zzG]) A _ HA.out.1 HZ.out (HA.out.2.own 0 rfl).sl HW.out.1 HW.out.2.2.2
          rw [HR.out.2.2.2.2.1] at p1
          refine p1.mono ?_
          clear p1
          rintro e wb ⟨rfl, hb⟩
          have HB := Lib.hid (HA.out.2.below hb).world
          clear hb
          go_wp2_with fail
          go_ret
          exact ⟨rfl, HB.out⟩

theorem tr_u8 {W : World} {cs : List Value} (h : Tr Try.prog W 5 cs) : ∃ n : Nat, cs = [.int .u8 (n : Int)] ∧ n < 256 := by
  obtain ⟨n, rfl, hn⟩ := h.int Try.underlying5
  simp [Lit.wf, IntKind.min, IntKind.max, IntKind.signed, IntKind.bits] at hn
  exact ⟨n.toNat, by rw [Int.toNat_of_nonneg (by omega)], by omega⟩
theorem tr_taken {W : World} {cs : List Value} (h : Tr Try.prog W 32 cs) : ∃ x : Tk, cs = tC x ∧ wfT x := by
  obtain ⟨hl, hf⟩ := h.struct Try.underlying32
  rw [show Try.prog.cellsOf 32 = 4 by kernel_rfl] at hl
  have h0 : Tr Try.prog W 5 ((cs.drop 0).take (Try.prog.cellsOf 5)) := hf 0 _ rfl
  have h1 : Tr Try.prog W 5 ((cs.drop 1).take (Try.prog.cellsOf 5)) := hf 1 _ rfl
  have h2 : Tr Try.prog W 5 ((cs.drop 2).take (Try.prog.cellsOf 5)) := hf 2 _ rfl
  have h3 : Tr Try.prog W 4 ((cs.drop 3).take (Try.prog.cellsOf 4)) := hf 3 _ rfl
  obtain ⟨a, ha, wa⟩ := tr_u8 h0
  obtain ⟨b, hb, wb⟩ := tr_u8 h1
  obtain ⟨y, hy, wy⟩ := tr_u8 h2
  obtain ⟨g, hg⟩ := Tr.bool Try.underlying4 h3
  rw [show Try.prog.cellsOf 5 = 1 by kernel_rfl] at ha hb hy
  rw [show Try.prog.cellsOf 4 = 1 by kernel_rfl] at hg
  clear h h0 h1 h2 h3 hf
  match cs, hl with
  | [x0, x1, x2, x3], _ =>
    simp at ha hb hy hg
    exact ⟨(a, b, y, g), by rw [ha, hb, hy, hg]; rfl, wa, wb, wy⟩

theorem SpecWithin_walk (v0 v1 : Value) (W : World) (c0 : Came Try.prog W 30 v0) (c1 : Came Try.prog W 5 v1) :
    Calls Try.prog 5 #[v0, v1] W fun e w' => e = .returned (.bool true) ∧ Below W.heap.size W w' := by
  obtain ⟨l, h1, hw⟩ := Came.list Try.underlying30 (by kernel_rfl) (by decide) c0 tC tC_len wfT (fun cs h => tr_taken h)
  obtain ⟨n, rfl, hn⟩ := c1.int Try.underlying5
  simp [Lit.wf, IntKind.min, IntKind.max, IntKind.signed, IntKind.bits] at hn
  obtain ⟨A1, cap1, rfl, hc1⟩ := h1.len
  obtain ⟨m, rfl⟩ : ∃ m : Nat, (m : Int) = n := ⟨n.toNat, Int.toNat_of_nonneg (by omega)⟩
  exact within_any A1 cap1 l m W (by omega) hc1 h1 hw

end Go.Proofs.Ytkpfebgmfkaglaa
