/-
  LawS930009GScript.
-/
import Derived.Test.YmbrdbReads
import Derived.Test.YmbrdbSmall
namespace Go.Proofs.Ymbrdb.lawS930009GScript
open Go.ChangeShapes Go.WideShapes Go.ChangeAt Go.RowKit
set_option linter.unusedVariables false
set_option linter.unusedSimpArgs false

set_option maxHeartbeats 4000000 in
set_option maxRecDepth 100000 in
theorem walk (w : World) (a0 : Int) (w0 : (Lit.int .u8 a0).wf = true) (a1 : Option Addr) (n1 c1 : Nat) (zA zB : Nat → Int) (s1 : Rd2 .u8 .u8 w a1 n1 zA zB) (m1 : n1 ≤ maxLen) (wA : ∀ i, i < n1 → (Lit.int .u8 (zA i)).wf = true) (wB : ∀ i, i < n1 → (Lit.int .u8 (zB i)).wf = true) :
    Calls Ydbm.prog 9 #[.int .u8 a0, .slice a1 n1 c1] w fun e w' => e = .returned (.bool true) ∧ Below w.heap.size w w' := by
  unfold maxLen at m1
  have b0 := bd_u8 w0
  clear w0
  obtain ⟨x0, rfl⟩ := Int.eq_ofNat_of_zero_le b0.1
  by_cases hlt : 1024 < n1
  · have hd : decide ((1024 : Int) < (n1 : Int)) = true := by simp; omega
    go_enter Ydbm.func9, Ydbm.ntmps9
    go_wp2_with fail
    go_ret
    exact ⟨rfl, Below.refl _ _⟩
  · have hd : decide ((1024 : Int) < (n1 : Int)) = false := by simp; omega
    go_enter Ydbm.func9, Ydbm.ntmps9
    go_wp2_with fail
    obtain ⟨n, hn⟩ : ∃ n : Nat, 2 + (x0 : Int) = n := ⟨2 + x0, by omega⟩
    rw [hn]
    have hn1 : 2 ≤ n := by omega
    have hn2 : n ≤ 257 := by omega
    clear hn b0 hlt
    have hmk := mk n (by omega)
    refine (new_yes n _ (by omega)).mono ?_
    rintro e wA1 ⟨b, bp, bs, rfl, hS, hb, hbp, hbs, hF⟩
    go_wp2_with fail
    have r0 := ARow.new wA1 n fun _ => 0
    have hF := hF.alloc (.cells (row n fun _ => 0) 3)
    have lb := hS.lt
    have lbp := hS.hp.lt
    have lbs := hS.hs.lt
    have hS := hS.alloc (.cells (row n fun _ => 0) 3)
    have hW : w.heap.size ≤ wA1.heap.size := by omega
    generalize wA1.heap.size = B at *
    generalize wA1.alloc (.cells (row n fun _ => 0) 3) = W at *
    go_loopw [9] (fun v wr => ∃ k : Nat, k ≤ n ∧ v = .int .i64 k ∧ SetsAt wr b bp bs n (fun i => (i : Int)) (fun _ => 1) n ∧ ARow wr B n (fil k (fun i => (i : Int)) fun _ => 0) ∧ Fr [] w wr) (fun v _ => n - (intOf v).toNat)
    case atStart => exact ⟨0, Nat.zero_le _, rfl, hS, r0.congr (by simp [fil]), hF⟩
    case round =>
      clear hS r0 hF
      obtain ⟨k, hk, rfl, hS, hA, hF⟩ := hrel
      by_cases hlt : k < n
      · have ck := hA.cell k hlt
        have fk := hA.frozen k
        go_wp2_with fail
        go_roundw
        case rel => exact ⟨k + 1, by omega, by go_num, hS.set_ne _ _ (by show B ≠ b; omega) (by show B ≠ bp; omega) (by show B ≠ bs; omega), hA.fill _ rfl, hF.setCell _ (.inr hW) _⟩
        case measure => simp [intOf] <;> omega
      · have hA : ARow wr B n (fun i => (rt n (fun x => x) i : Int)) := hA.congr (fun i hi => by rw [fil_lt _ _ (by omega), rt_of_root n rfl])
        go_wp2_with fail
        go_loopw [10] (fun v wr => ∃ (k : Nat) (p s : Nat → Nat) (c : Nat), k ≤ n1 ∧ v = .int .i64 k ∧ SetsN wr b bp bs n p s c ∧ Inv n p s c ∧ ARow wr B n (fun i => (rt n p i : Int)) ∧ Fr [] w wr) (fun v _ => n1 - (intOf v).toNat)
        case atStart => exact ⟨0, fun x => x, fun _ => 1, n, Nat.zero_le _, rfl, hS, inv_new n, hA, hF⟩
        case round =>
          clear hS hA hF
          obtain ⟨j, p, s, c, hj, rfl, hS, I, hA, hF⟩ := hrel
          by_cases hlt2 : j < n1
          · obtain ⟨b1, o1, rfl, cA, cB⟩ := (hF.rd20 s1) j hlt2
            have bA := bd_u8 (wA j hlt2)
            have bB := bd_u8 (wB j hlt2)
            have q0 : 0 ≤ zA j % (n : Int) := emod_lo _ (by omega)
            have q1 : zA j % (n : Int) < (n : Int) := emod_hi _ (by omega)
            have q2 : 0 ≤ zB j % (n : Int) := emod_lo _ (by omega)
            have q3 : zB j % (n : Int) < (n : Int) := emod_hi _ (by omega)
            have lt' : (j : Int) < (n1 : Int) := by omega
            go_wp2_with fail
            obtain ⟨x, hx⟩ : ∃ x : Nat, zA j % (n : Int) = x := Int.eq_ofNat_of_zero_le q0
            obtain ⟨y, hy⟩ : ∃ y : Nat, zB j % (n : Int) = y := Int.eq_ofNat_of_zero_le q2
            rw [hx, hy]
            have x1 : x < n := by omega
            have y1 : y < n := by omega
            clear hx hy q0 q1 q2 q3 bA bB cA cB
            refine (union_in b bp bs n p s c x y _ hS I (by omega) x1 y1).mono ?_
            rintro e w2 ⟨rfl, hS2, hF2⟩
            have F := I.forest
            have hrt := (I.union (a := x) (b := y) x1 y1).2
            have I2 := (I.union (a := x) (b := y) x1 y1).1
            have la := F.rt_lt x x1
            have lbb := F.rt_lt y y1
            have sa := I.cls _ la (F.root x x1)
            have sb := I.cls _ lbb (F.root y y1)
            have hA2 := hF2.aRow hA (by simp; omega)
            have hF3 : Fr [] w w2 := hF.trans' hF2 (by intro x hx hl; simp at hx; omega)
            have cx := hA2.cell x x1
            have cy := hA2.cell y y1
            have Hrt := hide hrt
            have Sa := hide sa
            have Sb := hide sb
            clear hrt sa sb hA hF hF2 hS
            have Hw : Hid (uWin n p s x y = if s (rt n p x) < s (rt n p y) then rt n p y else rt n p x) := rfl
            have Hl : Hid (uLose n p s x y = if s (rt n p x) < s (rt n p y) then rt n p x else rt n p y) := rfl
            go_wp2_with fail
            generalize hra : rt n p x = ra at *
            generalize hrb : rt n p y = rb at *
            clear hra hrb
            go_loop [15, 16, 17] (fun v15 v16 v17 => ∃ i : Nat, i ≤ n ∧ v17 = .int .i64 i ∧ v15 = .int .i64 (cnt (fun x => rt n p x == ra) i) ∧ v16 = .int .i64 (cnt (fun x => rt n p x == rb) i)) (fun _ _ v17 => n - (intOf v17).toNat)
            case atStart => exact ⟨0, Nat.zero_le _, rfl, rfl, rfl⟩
            case round =>
              obtain ⟨i, hi, rfl, rfl, rfl⟩ := hrel
              have k1 := cnt_le (fun x => rt n p x == ra) i
              have k2 := cnt_le (fun x => rt n p x == rb) i
              by_cases hlt3 : i < n
              · have ci := hA2.cell i hlt3
                have st1 := hide (cnt_eq_step (rt n p) ra i)
                have st2 := hide (cnt_eq_step (rt n p) rb i)
                have Cx := hide cx
                have Cy := hide cy
                clear cx cy
                by_cases e1 : rt n p i = ra
                · have E1 := hide e1
                  rw [e1] at ci
                  by_cases e2 : ra = rb
                  · subst e2
                    clear e1
                    go_wp2_with fail
                    go_round
                    case rel => exact ⟨i + 1, by omega, by go_num, by rw [st1.out, if_pos E1.out]; go_num, by rw [st2.out, if_pos E1.out]; go_num⟩
                    case measure => simp [intOf] <;> omega
                  · have f2 := beq_nat e2
                    clear e1
                    go_wp2_with fail
                    go_round
                    case rel => exact ⟨i + 1, by omega, by go_num, by rw [st1.out, if_pos E1.out]; go_num, by rw [st2.out, if_neg (by rw [E1.out]; exact e2)]; go_num⟩
                    case measure => simp [intOf] <;> omega
                · have f1 := beq_nat e1
                  by_cases e2 : rt n p i = rb
                  · have E2 := hide e2
                    rw [e2] at ci f1
                    have g1 : ¬ rb = ra := fun h => e1 (e2.trans h)
                    clear e1 e2
                    go_wp2_with fail
                    go_round
                    case rel => exact ⟨i + 1, by omega, by go_num, by rw [st1.out, if_neg (by rw [E2.out]; exact g1)]; go_num, by rw [st2.out, if_pos E2.out]; go_num⟩
                    case measure => simp [intOf] <;> omega
                  · have f2 := beq_nat e2
                    go_wp2_with fail
                    go_round
                    case rel => exact ⟨i + 1, by omega, by go_num, by rw [st1.out, if_neg e1]; go_num, by rw [st2.out, if_neg e2]; go_num⟩
                    case measure => simp [intOf] <;> omega
              · have hin : i = n := by omega
                subst hin
                rw [← Sa.out, ← Sb.out]
                clear k1 k2
                go_upto_if 102 with fail
                go_cut [13, 14, 18] from 45 to 120 (fun v13 v14 v18 wr => v13 = .int .i64 (uWin i p s x y) ∧ v14 = .int .i64 (uLose i p s x y) ∧ w2 = wr)
                case first =>
                  by_cases hsz : s ra < s rb
                  · have hd := dec_true (show (s ra : Int) < (s rb : Int) by omega)
                    rw [if_pos hsz] at Hw Hl
                    go_wp2_with fail
                    go_meet
                    case rel => exact ⟨by rw [Hw.out], by rw [Hl.out], rfl⟩
                  · have hd := dec_false (show ¬ (s ra : Int) < (s rb : Int) by omega)
                    rw [if_neg hsz] at Hw Hl
                    go_wp2_with fail
                    go_meet
                    case rel => exact ⟨by rw [Hw.out], by rw [Hl.out], rfl⟩
                case rest =>
                  obtain ⟨rfl, rfl, rfl⟩ := hcut
                  clear Hw Hl Sa Sb cx cy
                  generalize uWin i p s x y = K at *
                  generalize uLose i p s x y = D at *
                  go_wp2_with fail
                  go_loopw [19] (fun v wr => ∃ l : Nat, l ≤ i ∧ v = .int .i64 l ∧ SetsN wr b bp bs i (uP i p s x y) (uS i p s x y) (uC i p c x y) ∧ ARow wr B i (fil l (fun t => if rt i p t = D then (K : Int) else rt i p t) fun t => (rt i p t : Int)) ∧ Fr [] w wr) (fun v _ => i - (intOf v).toNat)
                  case atStart => exact ⟨0, Nat.zero_le _, rfl, hS2, hA2.congr (by simp [fil]), hF3⟩
                  case round =>
                    clear hS2 hA2 hF3
                    obtain ⟨l, hl, rfl, hS, hA, hF⟩ := hrel
                    by_cases hlt4 : l < i
                    · have cl := hA.cell l hlt4
                      rw [fil_ge _ _ (Nat.lt_irrefl l)] at cl
                      have fl := hA.frozen l
                      by_cases e : rt i p l = D
                      · have E := hide e
                        rw [e] at cl
                        clear e
                        go_wp2_with fail
                        go_roundw
                        case rel => exact ⟨l + 1, by omega, by go_num, hS.set_ne _ _ (by show B ≠ b; omega) (by show B ≠ bp; omega) (by show B ≠ bs; omega), hA.fill _ (by rw [if_pos E.out]), hF.setCell _ (.inr hW) _⟩
                        case measure => simp [intOf] <;> omega
                      · have f1 := beq_nat e
                        go_wp2_with fail
                        go_roundw
                        case rel => exact ⟨l + 1, by omega, by go_num, hS, hA.fskip (by rw [if_neg e]), hF⟩
                        case measure => simp [intOf] <;> omega
                    · have hA : ARow wr B i (fun t => (rt i (uP i p s x y) t : Int)) := hA.congr (fun t ht => by
                        rw [fil_lt _ _ (by omega), Hrt.out t ht]
                        split <;> rfl)
                      go_wp2_with fail
                      go_roundw
                      case rel => exact ⟨j + 1, _, _, _, by omega, by go_num, hS, I2, hA, hF⟩
                      case measure => simp [intOf] <;> omega
          · go_wp2_with fail
            go_loopw [20] (fun v wr => ∃ (i : Nat), i ≤ n ∧ v = .int .i64 i ∧ SetsN wr b bp bs n p s c ∧ ARow wr B n (fun i => (rt n p i : Int)) ∧ Fr [] w wr) (fun v _ => n - (intOf v).toNat)
            case atStart => exact ⟨0, Nat.zero_le _, rfl, hS, hA, hF⟩
            case round =>
              clear hS hA hF
              obtain ⟨i, hi, rfl, hS, hA, hF⟩ := hrel
              by_cases hlt3 : i < n
              · have ci := hA.cell i hlt3
                have cc := hS.c0
                have lt' : (i : Int) < (n : Int) := by omega
                have ee := bne_self (rt n p i)
                go_wp2_with fail
                go_quiet ((go_at_call 28; exact Calls.quiet_of_same (root_any b n n _ p _ i _ cc hS.hp.rd I.forest hlt3)))
                go_wp2_with fail
                go_roundw
                case rel => exact ⟨i + 1, by omega, by go_num, SetsAt.drewN hS _, hA.drewN _, hF.drewN _⟩
                case measure => simp [intOf] <;> omega
              · go_wp2_with fail
                go_ret
                exact ⟨rfl, hF.below⟩

theorem own : ownKnob Ydbm.prog.godebug = none := by kernel_rfl
theorem laidOut : laidOutB Ydbm.prog = true := by kernel_rfl
set_option maxRecDepth 100000 in
theorem lifted (os : Os) (started : os.Started) (H : Type) (enc : TypeId × Value → H) :
    ReturnsInHanded {} Ydbm.checked os 9 .any (Rows.lawS930009GScriptSpec.pre6 enc Ydbm.prog Ydbm.f9 Rows.lawS930009GScriptRow.domain false) (Rows.lawS930009GScriptSpec.post enc Ydbm.prog Ydbm.f9 false true false false) := by
  refine returnsInHanded_of_change (C := Ydbm.checked) own started (by kernel_rfl) Ydbm.func9
    (ChangeSpec.witness6 (enc := enc) (C := Ydbm.checked) false ⟨#[], #[.int .u8 0, .slice none 0 0], []⟩ 8 (by kernel_rfl) (by kernel_rfl) (by kernel_rfl) (by kernel_rfl)) ?_
  intro W base args ds gs before hval0 hW hcnd _
  have hval : ∀ (j : Nat) t v, Ydbm.f9.params[j]? = some t → args[j]? = some v → Value.okWide Ydbm.prog W .any base t v := hval0
  have hW' := hW
  obtain ⟨p, q, hA0, hV, rfl, hfz, hnd⟩ := hW
  have hA : DataW.TrodAll enc Ydbm.prog W 0 (fun _ => true) true Ydbm.f9.params.toList args.toList ds p := hA0
  rw [Ydbm.params9] at hA hval
  obtain ⟨v0, vs0, d0, ds0, p0, q0, hargs, rfl, rfl, h0, r0⟩ := trodAll_cons hA
  obtain ⟨v1, vs1, d1, ds1, p1, q1, rfl, rfl, rfl, h1, r1⟩ := trodAll_cons r0
  obtain ⟨rfl, rfl, rfl⟩ := trodAll_nil r1
  obtain rfl : args = #[v0, v1] := by cases args; simp_all
  obtain ⟨rfl, rfl⟩ := trodVars_none hV
  obtain ⟨a0, rfl, rfl, rfl, w0⟩ := open_int Ydbm.underlying5 (hval 0 5 v0 rfl rfl) h0
  obtain ⟨a1, n1, c1, rfl⟩ := okWide_slice Ydbm.underlying52 (hval 1 52 v1 rfl rfl)
  have lt1 : ∀ x ∈ p1, x.block < W.heap.size := by obtain ⟨m, hm⟩ := h1; exact DataW.trod_lt m _ _ _ hm
  obtain ⟨z10, z11, s1, m1, w10, w11⟩ := rd2_of_trod Ydbm.underlying52 Ydbm.underlying54 (by kernel_rfl) rfl rfl rfl rfl Ydbm.underlying5 Ydbm.underlying5 (by kernel_rfl) (by kernel_rfl) h1
  clear hA0 hval0
  refine (walk W a0 w0 a1 n1 c1 z10 z11 s1 m1 w10 w11).mono fun e W' ⟨he, bel⟩ => ?_
  subst he
  exact ⟨_, rfl, _, _, _, [], _, [], hW', trodAll_mk1 (shut_bool Ydbm.underlying4 _), (cons_mk (shut_int Ydbm.underlying5 w0) (cons_mk (Below.trod laidOut (by kernel_rfl) (of_decide_eq_true (by kernel_rfl)) h1 bel lt1) trodAll_mk0)), rfl, bel.frame _, fun h => by cases h⟩

theorem over : Rows.lawS930009GScriptRow.holds Ydbm.pinned (OpenSpec.ofChange Rows.lawS930009GScriptSpec) :=
  OpenClaim.holds_of_wide 9 Ydbm.f9 rfl rfl rfl rfl rfl rfl rfl ⟨rfl, rfl, rfl, rfl, rfl⟩ rfl rfl rfl rfl rfl (by kernel_rfl) Ydbm.func9 (by kernel_rfl)
    (of_decide_eq_true (by kernel_rfl)) (by unfold Func.isWrapper; first | (rw [if_pos (by decide +kernel)]; kernel_rfl) | (rw [if_neg (by decide +kernel)]; exact ⟨rfl, rfl⟩))
    (fun os started H enc _ => lifted os started H enc)

theorem proved : Rows.LawS930009GScriptSaid := over
#print axioms proved

end Go.Proofs.Ymbrdb.lawS930009GScript
