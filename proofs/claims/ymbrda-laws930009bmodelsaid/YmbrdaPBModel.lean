/-
  LawS930009BModel.
-/
import Derived.Test.YmbrdaBsteps
namespace Go.Proofs.Ymbrda.lawS930009BModel
open Go.ChangeShapes Go.WideShapes Go.ChangeAt Go.RowKit
set_option linter.unusedVariables false
set_option linter.unusedSimpArgs false

theorem count_any (b bp bs n : Nat) (p s : Nat → Nat) (c : Nat) (w : World) (hS : SetsN w b bp bs n p s c) :
    Calls Ydam.prog 23 #[.pointer (some ⟨b, 0, none⟩)] w fun e w' => e = .returned (.int .i64 c) ∧ w' = w := by
  have c2 := SetsAt.c2 hS
  go_enter Ydam.func23, Ydam.ntmps23
  go_wp2_with fail
  go_ret
  exact ⟨rfl, rfl⟩

theorem roots_eq {n : Nat} {p s : Nat → Nat} {c : Nat} (I : Inv n p s c) : cnt (fun i => rt n p i == i) n = c := by
  rw [I.roots]
  apply cnt_congr
  intro i hi
  rw [Bool.eq_iff_iff]
  simp only [beq_iff_eq]
  constructor
  · intro h
    have := I.forest.root i hi
    rw [h] at this
    exact this
  · intro h
    exact rt_of_root n h

theorem cnt_self_step (R : Nat → Nat) (k : Nat) : cnt (fun i => R i == i) (k + 1) = if R k = k then cnt (fun i => R i == i) k + 1 else cnt (fun i => R i == i) k := by
  by_cases h : R k = k
  · rw [if_pos h]; exact cnt_yes (by simpa using h)
  · rw [if_neg h]; exact cnt_no (by simpa using h)

theorem fnd_nat {n x : Nat} (p : Nat → Nat) (h : x < n) : fnd n p x = rt n p x := by
  unfold fnd
  rw [if_pos (by omega)]
  simp

set_option maxHeartbeats 8000000 in
set_option maxRecDepth 1000000 in
theorem walk (w : World) (a0 : Int) (w0 : (Lit.int .u8 a0).wf = true) (a1 : Option Addr) (n1 c1 : Nat) (zA zB : Nat → Int) (s1 : Rd2 .u8 .u8 w a1 n1 zA zB) (m1 : n1 ≤ maxLen) (wA : ∀ i, i < n1 → (Lit.int .u8 (zA i)).wf = true) (wB : ∀ i, i < n1 → (Lit.int .u8 (zB i)).wf = true) :
    Calls Ydam.prog 6 #[.int .u8 a0, .slice a1 n1 c1] w fun e w' => e = .returned (.bool true) ∧ Below w.heap.size w w' := by
  unfold maxLen at m1
  have b0 := bd_u8 w0
  clear w0
  by_cases hlt : 1024 < n1
  · have hd : decide ((1024 : Int) < (n1 : Int)) = true := by simp; omega
    go_enter Ydam.func6, Ydam.ntmps6
    go_wp2_with fail
    go_ret
    exact ⟨rfl, Below.refl _ _⟩
  · have hd : decide ((1024 : Int) < (n1 : Int)) = false := by simp; omega
    have hm2 : n1 ≤ 1024 := by omega
    go_enter Ydam.func6, Ydam.ntmps6
    go_upto_region 4 with fail
    obtain ⟨n, hn⟩ : ∃ n : Nat, (a0 + 6) % 256 = n := Int.eq_ofNat_of_zero_le (by omega)
    have hn2 : n ≤ 255 := by omega
    rw [hn]
    clear hn b0 hd hlt
    have hmk := mk n (by omega)
    go_wp2_with fail
    refine (new_yes n _ (by omega)).mono ?_
    rintro e wA1 ⟨b, bp, bs, rfl, hS, hb, hbp, hbs, hF⟩
    go_wp2_with fail
    have r0 := ARow.new wA1 n fun _ => 0
    replace hF := hF.alloc (.cells (row n fun _ => 0) 3)
    have lb := hS.lt
    have lbp := hS.hp.lt
    have lbs := hS.hs.lt
    replace hS := hS.alloc (.cells (row n fun _ => 0) 3)
    have hW : w.heap.size ≤ wA1.heap.size := by omega
    generalize wA1.heap.size = B at *
    generalize wA1.alloc (.cells (row n fun _ => 0) 3) = W at *
    go_loopw [9] (fun v wr => ∃ k : Nat, k ≤ n ∧ v = .int .i64 k ∧ SetsAt wr b bp bs n (fun i => (i : Int)) (fun _ => 1) n ∧ ARow wr B n (fil k (fun i => (i : Int)) fun _ => 0) ∧ Fr [] w wr) (fun v _ => n - (intOf v).toNat)
    case atStart => exact ⟨0, Nat.zero_le _, rfl, hS, r0.congr (by simp [fil]), hF⟩
    case round =>
      clear hS r0 hF
      obtain ⟨k, hk, rfl, hS, hA, hF⟩ := hrel
      by_cases hlt : k < n
      · have ck := hA.cell k hlt
        have fk := hA.frozen k
        go_wp2_with fail
        go_roundw
        case rel => exact ⟨k + 1, by omega, by go_num, hS.set_ne _ _ (by show B ≠ b; omega) (by show B ≠ bp; omega) (by show B ≠ bs; omega), hA.fill _ rfl, hF.setCell _ (.inr hW) _⟩
        case measure => simp [intOf] <;> omega
      · replace hA : ARow wr B n (fun i => (rt n (fun x => x) i : Int)) := hA.congr (fun i hi => by rw [fil_lt _ _ (by omega), rt_of_root n rfl])
        replace hS : SetsN wr b bp bs n (fun x => x) (fun _ => 1) n := hS
        clear hmk
        go_wp2_with fail
        go_loopw [10] (fun v wr => ∃ (k : Nat) (p s : Nat → Nat) (c : Nat), k ≤ n1 ∧ v = .int .i64 k ∧ SetsN wr b bp bs n p s c ∧ Inv n p s c ∧ ARow wr B n (fun i => (rt n p i : Int)) ∧ Fr [] w wr) (fun v _ => n1 - (intOf v).toNat)
        case atStart => exact ⟨0, fun x => x, fun _ => 1, n, Nat.zero_le _, rfl, hS, inv_new n, hA, hF⟩
        case round =>
          clear hS hA hF
          obtain ⟨j, p, s, c, hj, rfl, hS, I, hA, hF⟩ := hrel
          by_cases hlt2 : j < n1
          · obtain ⟨b1, o1, rfl, cA, cB⟩ := (hF.rd20 s1) j hlt2
            have bA := bd_u8 (wA j hlt2)
            have bB := bd_u8 (wB j hlt2)
            have lt' : (j : Int) < (n1 : Int) := by omega
            go_wp2_with fail
            refine (bpick_any n (zA j) _ hn2 bA).mono ?_
            rintro e w1 ⟨rfl, rfl⟩
            go_wp2_with fail
            refine (bpick_any n (zB j) _ hn2 bB).mono ?_
            rintro e w3 ⟨rfl, rfl⟩
            clear cA cB bA bB
            generalize bpk n (zA j) = X at *
            generalize bpk n (zB j) = Y at *
            go_wp2_with fail
            refine (bjoin_any B n p s c X Y _ (by omega) I hA).mono ?_
            rintro e w2 h
            obtain rfl := h.ret
            have hA2 := h.row
            have hS2 : SetsN w2 b bp bs n p s c := SetsAt.fr hS h.fr (by simp; omega) (by simp; omega) (by simp; omega)
            have hF2 : Fr [] w w2 := hF.trans' h.fr (by intro x hx hl; simp at hx; omega)
            clear h hS hA hF
            go_wp2_with fail
            refine (union_any b bp bs n p s c X Y _ hS2 I (by omega)).mono ?_
            rintro e w4 ⟨rfl, hS4, hG⟩
            have hA4 := hG.aRow hA2 (by simp; omega)
            have hF4 : Fr [] w w4 := hF2.trans' hG (by intro x hx hl; simp at hx; omega)
            have I4 := I.unionZ X Y
            have ee := bne_self (zCode n p X Y)
            clear hS2 hA2 hF2 hG I
            go_wp2_with fail
            go_roundw
            case rel => exact ⟨j + 1, _, _, _, by omega, by go_num, hS4, I4, hA4, hF4⟩
            case measure => simp [intOf] <;> omega
          · clear s1 wA wB
            go_wp2_with fail
            go_loop [14, 15] (fun v14 v15 => ∃ i : Nat, i ≤ n ∧ v15 = .int .i64 i ∧ v14 = .int .i64 (cnt (fun i => rt n p i == i) i)) (fun _ v15 => n - (intOf v15).toNat)
            case atStart => exact ⟨0, Nat.zero_le _, rfl, rfl⟩
            case round =>
              obtain ⟨i, hi, rfl, rfl⟩ := hrel
              have k1 := cnt_le (fun i => rt n p i == i) i
              by_cases hlt3 : i < n
              · have ci := hA.cell i hlt3
                have li : (i : Int) < (n : Int) := by omega
                have st := hide (cnt_self_step (rt n p) i)
                have e1 := bne_self (rt n p i : Int)
                have e2 := bne_self (s (rt n p i) : Int)
                go_wp2_with fail
                refine (find_any b n n _ p _ i _ (SetsAt.c0 hS) hS.hp.rd I.forest).mono ?_
                rintro e x1 ⟨rfl, rfl⟩
                rw [fnd_nat p hlt3, inb_nat hlt3]
                go_wp2_with fail
                refine (sizeOf_any b bp bs n p s _ _ i _ hS I.forest).mono ?_
                rintro e x2 ⟨rfl, rfl⟩
                rw [szof_nat p s hlt3, inb_nat hlt3]
                go_wp2_with fail
                refine (btally_any B n n _ _ _ (by omega) hA).mono ?_
                rintro e x3 ⟨rfl, rfl⟩
                rw [(cnt_cast (rt n p) (rt n p i) n).trans (I.size i hlt3).symm]
                by_cases er : rt n p i = i
                · have ee : ((rt n p i : Int) == (i : Int)) = true := by simp; omega
                  have E := hide er
                  clear er
                  go_wp2_with fail
                  go_round
                  case rel => exact ⟨i + 1, by omega, by go_num, by rw [st.out, if_pos E.out]; go_num⟩
                  case measure => simp [intOf] <;> omega
                · have ee := beq_nat er
                  go_wp2_with fail
                  go_round
                  case rel => exact ⟨i + 1, by omega, by go_num, by rw [st.out, if_neg er]⟩
                  case measure => simp [intOf] <;> omega
              · have hin : i = n := by omega
                subst hin
                rw [roots_eq I]
                clear k1
                have eC := beq_selfII (c : Int)
                go_wp2_with fail
                refine (count_any b bp bs i p s c _ hS).mono ?_
                rintro e x4 ⟨rfl, rfl⟩
                go_wp2_with fail
                go_ret
                exact ⟨by simp, hF.below⟩

theorem own : ownKnob Ydam.prog.godebug = none := by kernel_rfl
theorem laidOut : laidOutB Ydam.prog = true := by kernel_rfl
set_option maxRecDepth 100000 in
theorem lifted (os : Os) (started : os.Started) (H : Type) (enc : TypeId × Value → H) :
    ReturnsInHanded {} Ydam.checked os 6 .any (Rows.lawS930009BModelSpec.pre6 enc Ydam.prog Ydam.f6 Rows.lawS930009BModelRow.domain false) (Rows.lawS930009BModelSpec.post enc Ydam.prog Ydam.f6 false true false false) := by
  refine returnsInHanded_of_change (C := Ydam.checked) own started (by kernel_rfl) Ydam.func6
    (ChangeSpec.witness6 (enc := enc) (C := Ydam.checked) false ⟨#[], #[.int .u8 0, .slice none 0 0], []⟩ 8 (by kernel_rfl) (by kernel_rfl) (by kernel_rfl) (by kernel_rfl)) ?_
  intro W base args ds gs before hval0 hW hcnd _
  have hval : ∀ (j : Nat) t v, Ydam.f6.params[j]? = some t → args[j]? = some v → Value.okWide Ydam.prog W .any base t v := hval0
  have hW' := hW
  obtain ⟨p, q, hA0, hV, rfl, hfz, hnd⟩ := hW
  have hA : DataW.TrodAll enc Ydam.prog W 0 (fun _ => true) true Ydam.f6.params.toList args.toList ds p := hA0
  rw [Ydam.params6] at hA hval
  obtain ⟨v0, vs0, d0, ds0, p0, q0, hargs, rfl, rfl, h0, r0⟩ := trodAll_cons hA
  obtain ⟨v1, vs1, d1, ds1, p1, q1, rfl, rfl, rfl, h1, r1⟩ := trodAll_cons r0
  obtain ⟨rfl, rfl, rfl⟩ := trodAll_nil r1
  obtain rfl : args = #[v0, v1] := by cases args; simp_all
  obtain ⟨rfl, rfl⟩ := trodVars_none hV
  obtain ⟨a0, rfl, rfl, rfl, w0⟩ := open_int Ydam.underlying5 (hval 0 5 v0 rfl rfl) h0
  obtain ⟨a1, n1, c1, rfl⟩ := okWide_slice Ydam.underlying34 (hval 1 34 v1 rfl rfl)
  have lt1 : ∀ x ∈ p1, x.block < W.heap.size := by obtain ⟨m, hm⟩ := h1; exact DataW.trod_lt m _ _ _ hm
  obtain ⟨z10, z11, s1, m1, w10, w11⟩ := rd2_of_trod Ydam.underlying34 Ydam.underlying37 (by kernel_rfl) rfl rfl rfl rfl Ydam.underlying5 Ydam.underlying5 (by kernel_rfl) (by kernel_rfl) h1
  clear hA0 hval0
  refine (walk W a0 w0 a1 n1 c1 z10 z11 s1 m1 w10 w11).mono fun e W' ⟨he, bel⟩ => ?_
  subst he
  exact ⟨_, rfl, _, _, _, [], _, [], hW', trodAll_mk1 (shut_bool Ydam.underlying4 _), (cons_mk (shut_int Ydam.underlying5 w0) (cons_mk (Below.trod laidOut (by kernel_rfl) (of_decide_eq_true (by kernel_rfl)) h1 bel lt1) trodAll_mk0)), rfl, bel.frame _, fun h => by cases h⟩

theorem over : Rows.lawS930009BModelRow.holds Ydam.pinned (OpenSpec.ofChange Rows.lawS930009BModelSpec) :=
  OpenClaim.holds_of_wide 6 Ydam.f6 rfl rfl rfl rfl rfl rfl rfl ⟨rfl, rfl, rfl, rfl, rfl⟩ rfl rfl rfl rfl rfl (by kernel_rfl) Ydam.func6 (by kernel_rfl)
    (of_decide_eq_true (by kernel_rfl)) (by unfold Func.isWrapper; first | (rw [if_pos (by decide +kernel)]; kernel_rfl) | (rw [if_neg (by decide +kernel)]; exact ⟨rfl, rfl⟩))
    (fun os started H enc _ => lifted os started H enc)

theorem proved : Rows.LawS930009BModelSaid := over
#print axioms proved
end Go.Proofs.Ymbrda.lawS930009BModel
