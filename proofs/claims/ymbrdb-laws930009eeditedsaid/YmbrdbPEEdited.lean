/-
  LawS930009EEdited.
-/
import Derived.Test.YmbrdbEspec
import Derived.Test.YmbrdbEbuild
namespace Go.Proofs.Ymbrdb.lawS930009EEdited
open Go.ChangeShapes Go.WideShapes Go.ChangeAt Go.RowKit
set_option linter.unusedVariables false
set_option linter.unusedSimpArgs false

theorem told {e : Ending} {Q : Prop} (h : Tells e Q) (q : Q) : e = .returned (.bool true) := by
  obtain ⟨r, rfl, hr⟩ := h
  rw [hr.2 q]

theorem cutS {w : World} {b bp bs n : Nat} {p s : Nat → Int} {c : Int} (h : SetsAt w b bp bs n p s c) (k : Nat) (hk : k ≤ n) :
    SV (w.setCell ⟨b, 1, none⟩ (.slice (some ⟨bs, 0, none⟩) k n)) b (some ⟨bp, 0, none⟩) (some ⟨bs, 0, none⟩) n n k n p s c := by
  have hb := h.hb
  refine ⟨?_, ?_, ?_, ?_, ?_⟩
  · simp [World.cell?, World.setCell, Array.getElem?_modify, hb]
  · simp [World.cell?, World.setCell, Array.getElem?_modify, hb]
  · simp [World.cell?, World.setCell, Array.getElem?_modify, hb]
  · exact (h.hp.set_ne _ (by exact h.nep) _).rd
  · exact (h.hs.set_ne _ (by exact h.nes) _).rd_le k hk

set_option maxHeartbeats 8000000 in
set_option maxRecDepth 1000000 in
theorem walk (w : World) (a0 : Int) (w0 : (Lit.int .u8 a0).wf = true) (a1 : Option Addr) (n1 c1 : Nat) (zO zA zB : Nat → Int) (s1 : Rd3 .u8 .u8 .u8 w a1 n1 zO zA zB) (m1 : n1 ≤ maxLen)
    (wO : ∀ i, i < n1 → (Lit.int .u8 (zO i)).wf = true) (wA : ∀ i, i < n1 → (Lit.int .u8 (zA i)).wf = true) (wB : ∀ i, i < n1 → (Lit.int .u8 (zB i)).wf = true)
    (a2 : Int) (w2 : (Lit.int .u8 a2).wf = true) (a3 : Int) (w3 : (Lit.int .u8 a3).wf = true) (a4 : Int) (w4 : (Lit.int .u8 a4).wf = true) :
    Calls Ydbm.prog 4 #[.int .u8 a0, .slice a1 n1 c1, .int .u8 a2, .int .u8 a3, .int .u8 a4] w fun e w' => e = .returned (.bool true) ∧ Below w.heap.size w w' := by
  unfold maxLen at m1
  have b0 := bd_u8 w0
  have b2 := bd_u8 w2
  have b3 := bd_u8 w3
  have b4 := bd_u8 w4
  clear w0 w2 w3 w4
  obtain ⟨n, rfl⟩ := Int.eq_ofNat_of_zero_le b0.1
  by_cases hlt : 1024 < n1
  · have hd : decide ((1024 : Int) < (n1 : Int)) = true := by simp; omega
    go_enter Ydbm.func4, Ydbm.ntmps4
    go_wp2_with fail
    go_ret
    exact ⟨rfl, Below.refl _ _⟩
  · have hd : decide ((1024 : Int) < (n1 : Int)) = false := by simp; omega
    have hn2 : n ≤ 255 := by omega
    go_enter Ydbm.func4, Ydbm.ntmps4
    go_wp2_with fail
    refine (ebuild_any n n1 c1 a1 zO zA zB _ (by omega) (by omega) s1 wO wA wB).mono ?_
    rintro e wa ⟨b, bp, bs, p, s, c, h⟩
    obtain rfl := h.ret
    have hS := h.sets
    have hF := h.fr
    have hb := h.hb
    have hbp := h.hbp
    have hbs := h.hbs
    clear h hd hlt s1 wO wA wB b0 m1
    have q0 : 0 ≤ a4 % ((n : Int) + 3) := emod_lo _ (by omega)
    have q1 : a4 % ((n : Int) + 3) < (n : Int) + 3 := emod_hi _ (by omega)
    go_upto_region 9 with fail
    have v0 : -1 ≤ a4 % ((n : Int) + 3) - 1 := by omega
    have v1 : a4 % ((n : Int) + 3) - 1 ≤ 300 := by omega
    clear q0 q1 b4
    generalize a4 % ((n : Int) + 3) - 1 = V at *
    go_cut [42] from 37 to 42 (fun v42 wz => wa = wz ∧ v42 = .bool (decide (n = 0 ∨ a2 % 4 = 2)))
    case first =>
      by_cases h0 : n = 0
      · subst h0
        go_wp2_with fail
        go_meet
        case rel => exact ⟨rfl, by simp⟩
      · have hz : ((n : Int) == 0) = false := by simp [h0]
        by_cases h2 : a2 % 4 = 2
        · have e2 : (a2 % 4 == 2) = true := by simp [h2]
          have D : Hid (decide (n = 0 ∨ a2 % 4 = 2) = true) := hide (dec_true (Or.inr h2))
          clear h2
          go_wp2_with fail
          go_meet
          case rel => exact ⟨rfl, by rw [D.out]⟩
        · have e2 : (a2 % 4 == 2) = false := by simp [h2]
          have D : Hid (decide (n = 0 ∨ a2 % 4 = 2) = false) := hide (dec_false (by rintro (h | h); exact h0 h; exact h2 h))
          clear h2
          go_wp2_with fail
          go_meet
          case rel => exact ⟨rfl, by rw [D.out]⟩
    case rest =>
      obtain ⟨rfl, rfl⟩ := hcut
      go_upto_if 42 with fail
      go_cut [] from 42 to 80 (fun wz => ∃ (x1 : Option Addr) (m d1 : Nat) (P S : Nat → Int) (C : Int), SV wz b (some ⟨bp, 0, none⟩) x1 n n m d1 P S C ∧ m ≤ n ∧ Fr [] w wz)
      case first =>
        have c0 := SetsAt.c0 hS
        have c1 := SetsAt.c1 hS
        have c2 := SetsAt.c2 hS
        have fb := SetsAt.frozen hS
        have f1 := fb 1
        have f2 := fb 2
        clear fb
        by_cases hc : n = 0 ∨ a2 % 4 = 2
        · rw [dec_true hc]
          clear hc
          go_wp2_with fail
          go_meet
          case rel => exact ⟨_, n, n, _, _, _, SetsAt.sv (SetsAt.setC hS _), Nat.le_refl _, hF.setCell _ (.inr hb) _⟩
        · have h0 : n ≠ 0 := fun h => hc (Or.inl h)
          have h2 : a2 % 4 ≠ 2 := fun h => hc (Or.inr h)
          rw [dec_false hc]
          have hpos : (0 : Int) < (n : Int) := by omega
          have hnz : ¬ ((n : Int) = 0) := by omega
          have r0 : 0 ≤ a3 % (n : Int) := emod_lo _ hpos
          have r1 : a3 % (n : Int) < (n : Int) := emod_hi _ hpos
          obtain ⟨x, hx⟩ : ∃ x : Nat, a3 % (n : Int) = x := Int.eq_ofNat_of_zero_le r0
          have x1 : x < n := by omega
          have lx : (x : Int) < (n : Int) := by omega
          have tx : (a3).tmod (n : Int) = (x : Int) := by rw [Int.tmod_eq_emod_of_nonneg b3.1]; exact hx
          have wx : IntKind.i64.wrap (x : Int) = x := by rw [IntKind.wrap_i64]; omega
          have w3 : IntKind.i64.wrap a3 = a3 := by rw [IntKind.wrap_i64]; omega
          clear hc
          by_cases g0 : a2 % 4 = 0
          · have e0 : (a2 % 4 == 0) = true := by simp [g0]
            have fx := hS.hp.frozen x
            have cx := hS.hp.cell x x1
            clear g0 h2
            go_wp2_with fail
            go_region
            go_wp2_with fail
            go_meet
            case rel => exact ⟨_, n, n, _, _, _, SetsAt.sv (SetsAt.drew (SetsAt.setP hS x V)), Nat.le_refl _, (hF.setCell _ (.inr hbp) _).drew⟩
          · have e0 : (a2 % 4 == 0) = false := by simp [g0]
            by_cases g1 : a2 % 4 = 1
            · have e1 : (a2 % 4 == 1) = true := by simp [g1]
              have fx := hS.hs.frozen x
              have cx := hS.hs.cell x x1
              clear g0 g1 h2
              go_wp2_with fail
              go_region
              go_wp2_with fail
              go_meet
              case rel => exact ⟨_, n, n, _, _, _, SetsAt.sv (SetsAt.drew (SetsAt.setS hS x V)), Nat.le_refl _, (hF.setCell _ (.inr hbs) _).drew⟩
            · have e1 : (a2 % 4 == 1) = false := by simp [g1]
              clear g0 g1 h2 tx wx hx r0 r1 w3
              go_wp2_with fail
              go_meet
              case rel => exact ⟨_, n - 1, n, _, _, _, cutS hS (n - 1) (by omega), by omega, hF.setCell _ (.inr hb) _⟩
      case rest =>
        clear hS hF b2 b3 v0 v1
        obtain ⟨x1, m, d1, P, S, C, hV, hm, hF⟩ := hcut
        have c0 := hV.c0
        have c1 := hV.c1
        have c2 := hV.c2
        go_wp2_with fail
        refine (ecopy_any _ n n P _ (by omega) hV.rp).mono ?_
        rintro e x0 ⟨bo0, rfl, R0, _, hG⟩
        clear c0 c1 c2
        replace hV := hV.fr0 hG
        replace hF := hF.trans hG
        clear hG
        have c0 := hV.c0
        have c1 := hV.c1
        have c2 := hV.c2
        go_wp2_with fail
        refine (ecopy_any _ m d1 S _ (by omega) hV.rs).mono ?_
        rintro e y0 ⟨bo1, rfl, R1, _, hG⟩
        clear c0 c1 c2
        replace hV := hV.fr0 hG
        replace R0 := hG.aRow R0 (by simp)
        replace hF := hF.trans hG
        clear hG
        have c0 := hV.c0
        have c1 := hV.c1
        have c2 := hV.c2
        go_wp2_with fail
        refine (valid_any b _ x1 n n m d1 P S C _ (by omega) (by omega) hV).mono ?_
        rintro e y1 ⟨⟨r, rfl, hr⟩, hG⟩
        have Hr := hide hr
        clear c0 c1 c2 hr
        replace hV := hV.fr0 hG
        replace R0 := hG.aRow R0 (by simp)
        replace R1 := hG.aRow R1 (by simp)
        replace hF := hF.trans hG
        clear hG
        have c0 := hV.c0
        have c1 := hV.c1
        have c2 := hV.c2
        go_wp2_with fail
        refine (eeq_any _ _ n n n n P P _ (by omega) (by omega) R0.rd hV.rp).mono ?_
        rintro e y2 ⟨ht, hG⟩
        obtain rfl := told ht ⟨rfl, fun _ _ => rfl⟩
        clear ht c0 c1 c2
        replace hV := hV.fr0 hG
        replace R0 := hG.aRow R0 (by simp)
        replace R1 := hG.aRow R1 (by simp)
        replace hF := hF.trans hG
        clear hG
        have c0 := hV.c0
        have c1 := hV.c1
        have c2 := hV.c2
        go_wp2_with fail
        refine (eeq_any _ _ m m m d1 S S _ (by omega) (by omega) R1.rd hV.rs).mono ?_
        rintro e y3 ⟨ht, hG⟩
        obtain rfl := told ht ⟨rfl, fun _ _ => rfl⟩
        clear ht c0 c1 c2
        replace hV := hV.fr0 hG
        replace R0 := hG.aRow R0 (by simp)
        replace R1 := hG.aRow R1 (by simp)
        replace hF := hF.trans hG
        clear hG
        have c2 := hV.c2
        have eC := bne_self C
        go_wp2_with fail
        refine (espec_any _ _ n n m m P S C _ (by omega) (by omega) R0.rd R1.rd).mono ?_
        rintro e y4 ⟨⟨r2, rfl, hr2⟩, hG⟩
        have hrr : r = r2 := by
          rw [Bool.eq_iff_iff, Hr.out, hr2]
        subst hrr
        clear hr2 Hr
        replace hF := hF.trans hG
        go_wp2_with fail
        go_ret
        exact ⟨by simp, hF.below⟩

theorem own : ownKnob Ydbm.prog.godebug = none := by kernel_rfl
theorem laidOut : laidOutB Ydbm.prog = true := by kernel_rfl
set_option maxRecDepth 100000 in
theorem lifted (os : Os) (started : os.Started) (H : Type) (enc : TypeId × Value → H) :
    ReturnsInHanded {} Ydbm.checked os 4 .any (Rows.lawS930009EEditedSpec.pre6 enc Ydbm.prog Ydbm.f4 Rows.lawS930009EEditedRow.domain false) (Rows.lawS930009EEditedSpec.post enc Ydbm.prog Ydbm.f4 false true false false) := by
  refine returnsInHanded_of_change (C := Ydbm.checked) own started (by kernel_rfl) Ydbm.func4
    (ChangeSpec.witness6 (enc := enc) (C := Ydbm.checked) false ⟨#[], #[.int .u8 0, .slice none 0 0, .int .u8 0, .int .u8 0, .int .u8 0], []⟩ 8 (by kernel_rfl) (by kernel_rfl) (by kernel_rfl) (by kernel_rfl)) ?_
  intro W base args ds gs before hval0 hW hcnd _
  have hval : ∀ (j : Nat) t v, Ydbm.f4.params[j]? = some t → args[j]? = some v → Value.okWide Ydbm.prog W .any base t v := hval0
  have hW' := hW
  obtain ⟨p, q, hA0, hV, rfl, hfz, hnd⟩ := hW
  have hA : DataW.TrodAll enc Ydbm.prog W 0 (fun _ => true) true Ydbm.f4.params.toList args.toList ds p := hA0
  rw [Ydbm.params4] at hA hval
  obtain ⟨v0, vs0, d0, ds0, p0, q0, hargs, rfl, rfl, h0, r0⟩ := trodAll_cons hA
  obtain ⟨v1, vs1, d1, ds1, p1, q1, rfl, rfl, rfl, h1, r1⟩ := trodAll_cons r0
  obtain ⟨v2, vs2, d2, ds2, p2, q2, rfl, rfl, rfl, h2, r2⟩ := trodAll_cons r1
  obtain ⟨v3, vs3, d3, ds3, p3, q3, rfl, rfl, rfl, h3, r3⟩ := trodAll_cons r2
  obtain ⟨v4, vs4, d4, ds4, p4, q4, rfl, rfl, rfl, h4, r4⟩ := trodAll_cons r3
  obtain ⟨rfl, rfl, rfl⟩ := trodAll_nil r4
  obtain rfl : args = #[v0, v1, v2, v3, v4] := by cases args; simp_all
  obtain ⟨rfl, rfl⟩ := trodVars_none hV
  obtain ⟨a0, rfl, rfl, rfl, w0⟩ := open_int Ydbm.underlying5 (hval 0 5 v0 rfl rfl) h0
  obtain ⟨a1, n1, c1, rfl⟩ := okWide_slice Ydbm.underlying22 (hval 1 22 v1 rfl rfl)
  have lt1 : ∀ x ∈ p1, x.block < W.heap.size := by obtain ⟨m, hm⟩ := h1; exact DataW.trod_lt m _ _ _ hm
  obtain ⟨z10, z11, z12, s1, m1, w10, w11, w12⟩ := rd3_of_trod Ydbm.underlying22 Ydbm.underlying75 (by kernel_rfl) rfl rfl rfl rfl rfl rfl Ydbm.underlying5 Ydbm.underlying5 Ydbm.underlying5 (by kernel_rfl) (by kernel_rfl) (by kernel_rfl) h1
  obtain ⟨a2, rfl, rfl, rfl, w2⟩ := open_int Ydbm.underlying5 (hval 2 5 v2 rfl rfl) h2
  obtain ⟨a3, rfl, rfl, rfl, w3⟩ := open_int Ydbm.underlying5 (hval 3 5 v3 rfl rfl) h3
  obtain ⟨a4, rfl, rfl, rfl, w4⟩ := open_int Ydbm.underlying5 (hval 4 5 v4 rfl rfl) h4
  clear hA0 hval0
  refine (walk W a0 w0 a1 n1 c1 z10 z11 z12 s1 m1 w10 w11 w12 a2 w2 a3 w3 a4 w4).mono fun e W' ⟨he, bel⟩ => ?_
  subst he
  exact ⟨_, rfl, _, _, _, [], _, [], hW', trodAll_mk1 (shut_bool Ydbm.underlying4 _), (cons_mk (shut_int Ydbm.underlying5 w0) (cons_mk (Below.trod laidOut (by kernel_rfl) (of_decide_eq_true (by kernel_rfl)) h1 bel lt1) (cons_mk (shut_int Ydbm.underlying5 w2) (cons_mk (shut_int Ydbm.underlying5 w3) (cons_mk (shut_int Ydbm.underlying5 w4) trodAll_mk0))))), rfl, bel.frame _, fun h => by cases h⟩

theorem over : Rows.lawS930009EEditedRow.holds Ydbm.pinned (OpenSpec.ofChange Rows.lawS930009EEditedSpec) :=
  OpenClaim.holds_of_wide 4 Ydbm.f4 rfl rfl rfl rfl rfl rfl rfl ⟨rfl, rfl, rfl, rfl, rfl⟩ rfl rfl rfl rfl rfl (by kernel_rfl) Ydbm.func4 (by kernel_rfl)
    (of_decide_eq_true (by kernel_rfl)) (by unfold Func.isWrapper; first | (rw [if_pos (by decide +kernel)]; kernel_rfl) | (rw [if_neg (by decide +kernel)]; exact ⟨rfl, rfl⟩))
    (fun os started H enc _ => lifted os started H enc)

theorem proved : Rows.LawS930009EEditedSaid := over
#print axioms proved
end Go.Proofs.Ymbrdb.lawS930009EEdited
