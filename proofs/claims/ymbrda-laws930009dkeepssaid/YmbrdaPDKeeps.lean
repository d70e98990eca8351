/-
  LawS930009DKeeps.
-/
import Derived.Test.YmbrdaUnionZ
import Derived.Test.YmbrdaSmall
import Derived.Test.YmbrdaValid
import Derived.Deep.RegionWith
namespace Go.Proofs.Ymbrda.lawS930009DKeeps
open Go.ChangeShapes Go.WideShapes Go.ChangeAt Go.RowKit
set_option linter.unusedVariables false
set_option linter.unusedSimpArgs false

theorem count_any (b bp bs n : Nat) (p s : Nat → Int) (c : Int) (w : World) (hS : SetsAt w b bp bs n p s c) :
    Calls Ydam.prog 23 #[.pointer (some ⟨b, 0, none⟩)] w fun e w' => e = .returned (.int .i64 c) ∧ w' = w := by
  have c2 := hS.c2
  go_enter Ydam.func23, Ydam.ntmps23
  go_wp2_with fail
  go_ret
  exact ⟨rfl, rfl⟩

set_option maxHeartbeats 4000000 in
set_option maxRecDepth 100000 in
theorem walk (w : World) (a0 : Int) (w0 : (Lit.int .u8 a0).wf = true) (a1 : Option Addr) (n1 c1 : Nat) (zA zB : Nat → Int) (s1 : Rd2 .u8 .u8 w a1 n1 zA zB) (m1 : n1 ≤ maxLen)
    (wA : ∀ i, i < n1 → (Lit.int .u8 (zA i)).wf = true) (wB : ∀ i, i < n1 → (Lit.int .u8 (zB i)).wf = true) (a2 : Int) (w2 : (Lit.int .u8 a2).wf = true) :
    Calls Ydam.prog 13 #[.int .u8 a0, .slice a1 n1 c1, .int .u8 a2] w fun e w' => e = .returned (.bool true) ∧ Below w.heap.size w w' := by
  unfold maxLen at m1
  have b0 := bd_u8 w0
  have b2 := bd_u8 w2
  clear w0 w2
  obtain ⟨x0, rfl⟩ := Int.eq_ofNat_of_zero_le b0.1
  by_cases hlt : 1024 < n1
  · have hd : decide ((1024 : Int) < (n1 : Int)) = true := by simp; omega
    go_enter Ydam.func13, Ydam.ntmps13
    go_wp2_with fail
    go_ret
    exact ⟨rfl, Below.refl _ _⟩
  · have hd : decide ((1024 : Int) < (n1 : Int)) = false := by simp; omega
    go_enter Ydam.func13, Ydam.ntmps13
    go_wp2_with fail
    obtain ⟨n, hn⟩ : ∃ n : Nat, (x0 : Int) + 1 = n := ⟨x0 + 1, by omega⟩
    rw [hn]
    have hn1 : 1 ≤ n := by omega
    have hn2 : n ≤ 256 := by omega
    clear hn b0 hlt
    have hmk := mk n (by omega)
    refine (new_yes n _ (by omega)).mono ?_
    rintro e wA1 ⟨b, bp, bs, rfl, hS, hb, hbp, hbs, hF⟩
    go_wp2_with fail
    go_loopw [10] (fun v wr => ∃ (k : Nat) (p s : Nat → Nat) (c : Nat), k ≤ n1 ∧ v = .int .i64 k ∧ SetsN wr b bp bs n p s c ∧ Inv n p s c ∧ Fr [] w wr) (fun v _ => n1 - (intOf v).toNat)
    case atStart => exact ⟨0, fun x => x, fun _ => 1, n, Nat.zero_le _, rfl, hS, inv_new n, hF⟩
    case round =>
      clear hS hF
      obtain ⟨j, p, s, c, hj, rfl, hS, I, hF⟩ := hrel
      by_cases hlt2 : j < n1
      · obtain ⟨b1, o1, rfl, cA, cB⟩ := (hF.rd20 s1) j hlt2
        have bA := bd_u8 (wA j hlt2)
        have bB := bd_u8 (wB j hlt2)
        have lt' : (j : Int) < (n1 : Int) := by omega
        have np : (0 : Int) < (n : Int) := by omega
        have nz : ((n : Int) == 0) = false := by simp; omega
        have I2 := fun x y => I.unionZ x y
        have I2' := hide I2
        clear I2
        go_wp2_with fail
        go_region_with (go_at_call 19; refine (union_any b bp bs n p s c _ _ _ (by exact SetsAt.drew hS) I (by omega)).mono ?_; rintro e w2 ⟨rfl, hS2, hF2⟩)
        all_goals go_wp2_with fail
        all_goals
          go_roundw
          case rel => exact ⟨j + 1, _, _, _, by omega, by go_num, hS2, I2'.out _ _, (Fr.drew hF).trans' hF2 (by intro x hx hl; simp at hx; omega)⟩
          case measure => simp [intOf] <;> omega
      · have F := I.forest
        go_wp2_with fail
        have r0 := ARow.new wr n fun _ => 0
        have lb := hS.lt
        have lbp := hS.hp.lt
        have lbs := hS.hs.lt
        have hW : w.heap.size ≤ wr.heap.size := hF.size
        have hF := hF.alloc (.cells (row n fun _ => 0) 3)
        have hS := SetsAt.alloc hS (.cells (row n fun _ => 0) 3)
        generalize wr.heap.size = B at *
        generalize wr.alloc (.cells (row n fun _ => 0) 3) = W at *
        go_loopw [12] (fun v wr => ∃ k : Nat, k ≤ n ∧ v = .int .i64 k ∧ SetsN wr b bp bs n p s c ∧ ARow wr B n (fil k (fun i => (rt n p i : Int)) fun _ => 0) ∧ Fr [] w wr) (fun v _ => n - (intOf v).toNat)
        case atStart => exact ⟨0, Nat.zero_le _, rfl, hS, r0.congr (by simp [fil]), hF⟩
        case round =>
          clear hS hF r0
          obtain ⟨k, hk, rfl, hS, hA, hF⟩ := hrel
          by_cases hlt3 : k < n
          · have ck := hA.cell k hlt3
            have fk := hA.frozen k
            go_wp2_with fail
            refine (find_in b n n _ p _ k _ hS.c0 hS.hp.rd F hlt3).mono ?_
            rintro e w4 ⟨rfl, rfl⟩
            go_wp2_with fail
            go_roundw
            case rel => exact ⟨k + 1, by omega, by go_num, hS.set_ne _ _ (by show B ≠ b; omega) (by show B ≠ bp; omega) (by show B ≠ bs; omega), hA.fill _ rfl, hF.setCell _ (.inr hW) _⟩
            case measure => simp [intOf] <;> omega
          · have hA : ARow wr B n (fun i => (rt n p i : Int)) := hA.congr (fun i hi => fil_lt _ _ (by omega))
            have np : (0 : Int) < (n : Int) := by omega
            have q0 : 0 ≤ a2 % (n : Int) := emod_lo _ (by omega)
            have q1 : a2 % (n : Int) < (n : Int) := emod_hi _ (by omega)
            go_wp2_with fail
            refine (count_any b bp bs n _ _ _ _ hS).mono ?_
            rintro e w4 ⟨rfl, rfl⟩
            go_wp2_with fail
            obtain ⟨x, hx⟩ : ∃ x : Nat, a2 % (n : Int) = x := Int.eq_ofNat_of_zero_le q0
            rw [hx]
            have x1 : x < n := by omega
            clear hx q0 q1 b2
            refine (compress_in b bp bs n p _ _ _ x _ hS F x1).mono ?_
            rintro e w5 ⟨rfl, q, hq, hS5, hF5⟩
            have hA5 := hF5.aRow hA (by simp; omega)
            have hF6 : Fr [] w w5 := hF.trans' hF5 (by intro x hx hl; simp at hx; omega)
            have I5 := hq.inv I x1
            have F5 := I5.forest
            have Hrt : Hid (∀ y, y < n → rt n q y = rt n p y) := fun y hy => hq.rt F x1 y hy
            have Hself := hide (hq.self x1)
            clear hS hA hF hF5 hq
            go_wp2_with fail
            go_loop [17] (fun v => ∃ k : Nat, k ≤ n ∧ v = .int .i64 k) (fun v => n - (intOf v).toNat)
            case atStart => exact ⟨0, Nat.zero_le _, rfl⟩
            case round =>
              obtain ⟨y, hy, rfl⟩ := hrel
              by_cases hlt4 : y < n
              · have cy := hA5.cell y hlt4
                have ee := bne_self (rt n p y)
                have ly : (y : Int) < (n : Int) := by omega
                go_wp2_with fail
                refine (find_in b n n _ q _ y _ hS5.c0 hS5.hp.rd F5 hlt4).mono ?_
                rintro e w6 ⟨rfl, rfl⟩
                rw [Hrt.out y hlt4]
                go_wp2_with fail
                go_round
                case rel => exact ⟨y + 1, by omega, by go_num⟩
                case measure => simp [intOf] <;> omega
              · have c0 := hS5.c0
                have cx := hS5.hp.cell x x1
                rw [Hself.out] at cx
                have cy := hA5.cell x x1
                have ee := beq_self (rt n p x)
                have e2 := beq_self (c : Int)
                have lx : (x : Int) < (n : Int) := by omega
                have vok := I5.vok (by omega)
                go_wp2_with fail
                go_region_with (first
                  | (go_at_call 23; refine (count_any b bp bs n _ _ _ _ (by exact SetsAt.drew hS5)).mono ?_; rintro e w7 ⟨rfl, rfl⟩)
                  | (go_at_call 28; refine (valid_any b _ _ n n n n _ _ _ _ (by omega) (by omega) (by exact (SetsAt.drew hS5).sv)).mono ?_; rintro e w8 ⟨⟨r, rfl, hr⟩, hF8⟩; obtain rfl : r = true := hr.2 vok; clear hr))
                all_goals go_wp2_with fail
                all_goals go_ret
                all_goals exact ⟨rfl, ((Fr.drew hF6).trans hF8).below⟩

theorem own : ownKnob Ydam.prog.godebug = none := by kernel_rfl
theorem laidOut : laidOutB Ydam.prog = true := by kernel_rfl
set_option maxRecDepth 100000 in
theorem lifted (os : Os) (started : os.Started) (H : Type) (enc : TypeId × Value → H) :
    ReturnsInHanded {} Ydam.checked os 13 .any (Rows.lawS930009DKeepsSpec.pre6 enc Ydam.prog Ydam.f13 Rows.lawS930009DKeepsRow.domain false) (Rows.lawS930009DKeepsSpec.post enc Ydam.prog Ydam.f13 false true false false) := by
  refine returnsInHanded_of_change (C := Ydam.checked) own started (by kernel_rfl) Ydam.func13
    (ChangeSpec.witness6 (enc := enc) (C := Ydam.checked) false ⟨#[], #[.int .u8 0, .slice none 0 0, .int .u8 0], []⟩ 8 (by kernel_rfl) (by kernel_rfl) (by kernel_rfl) (by kernel_rfl)) ?_
  intro W base args ds gs before hval0 hW hcnd _
  have hval : ∀ (j : Nat) t v, Ydam.f13.params[j]? = some t → args[j]? = some v → Value.okWide Ydam.prog W .any base t v := hval0
  have hW' := hW
  obtain ⟨p, q, hA0, hV, rfl, hfz, hnd⟩ := hW
  have hA : DataW.TrodAll enc Ydam.prog W 0 (fun _ => true) true Ydam.f13.params.toList args.toList ds p := hA0
  rw [Ydam.params13] at hA hval
  obtain ⟨v0, vs0, d0, ds0, p0, q0, hargs, rfl, rfl, h0, r0⟩ := trodAll_cons hA
  obtain ⟨v1, vs1, d1, ds1, p1, q1, rfl, rfl, rfl, h1, r1⟩ := trodAll_cons r0
  obtain ⟨v2, vs2, d2, ds2, p2, q2, rfl, rfl, rfl, h2, r2⟩ := trodAll_cons r1
  obtain ⟨rfl, rfl, rfl⟩ := trodAll_nil r2
  obtain rfl : args = #[v0, v1, v2] := by cases args; simp_all
  obtain ⟨rfl, rfl⟩ := trodVars_none hV
  obtain ⟨a0, rfl, rfl, rfl, w0⟩ := open_int Ydam.underlying5 (hval 0 5 v0 rfl rfl) h0
  obtain ⟨a1, n1, c1, rfl⟩ := okWide_slice Ydam.underlying68 (hval 1 68 v1 rfl rfl)
  have lt1 : ∀ x ∈ p1, x.block < W.heap.size := by obtain ⟨m, hm⟩ := h1; exact DataW.trod_lt m _ _ _ hm
  obtain ⟨z10, z11, s1, m1, w10, w11⟩ := rd2_of_trod Ydam.underlying68 Ydam.underlying69 (by kernel_rfl) rfl rfl rfl rfl Ydam.underlying5 Ydam.underlying5 (by kernel_rfl) (by kernel_rfl) h1
  obtain ⟨a2, rfl, rfl, rfl, w2⟩ := open_int Ydam.underlying5 (hval 2 5 v2 rfl rfl) h2
  clear hA0 hval0
  refine (walk W a0 w0 a1 n1 c1 z10 z11 s1 m1 w10 w11 a2 w2).mono fun e W' ⟨he, bel⟩ => ?_
  subst he
  exact ⟨_, rfl, _, _, _, [], _, [], hW', trodAll_mk1 (shut_bool Ydam.underlying4 _), (cons_mk (shut_int Ydam.underlying5 w0) (cons_mk (Below.trod laidOut (by kernel_rfl) (of_decide_eq_true (by kernel_rfl)) h1 bel lt1) (cons_mk (shut_int Ydam.underlying5 w2) trodAll_mk0))), rfl, bel.frame _, fun h => by cases h⟩

theorem over : Rows.lawS930009DKeepsRow.holds Ydam.pinned (OpenSpec.ofChange Rows.lawS930009DKeepsSpec) :=
  OpenClaim.holds_of_wide 13 Ydam.f13 rfl rfl rfl rfl rfl rfl rfl ⟨rfl, rfl, rfl, rfl, rfl⟩ rfl rfl rfl rfl rfl (by kernel_rfl) Ydam.func13 (by kernel_rfl)
    (of_decide_eq_true (by kernel_rfl)) (by unfold Func.isWrapper; first | (rw [if_pos (by decide +kernel)]; kernel_rfl) | (rw [if_neg (by decide +kernel)]; exact ⟨rfl, rfl⟩))
    (fun os started H enc _ => lifted os started H enc)

theorem proved : Rows.LawS930009DKeepsSaid := over
#print axioms proved
end Go.Proofs.Ymbrda.lawS930009DKeeps
