/-
  LawS930009FScript.
-/
import Derived.Test.YmbrdbUnionZ
import Derived.Test.YmbrdbCanon
import Derived.Test.YmbrdbSmall
namespace Go.Proofs.Ymbrdb.lawS930009FScript
open Go.ChangeShapes Go.WideShapes Go.ChangeAt Go.RowKit
set_option linter.unusedVariables false
set_option linter.unusedSimpArgs false

theorem told {e : Ending} {Q : Prop} (h : Tells e Q) (q : Q) : e = .returned (.bool true) := by
  obtain ⟨r, rfl, hr⟩ := h
  rw [hr.2 q]

theorem join_both {n : Nat} {p s : Nat → Nat} {c x y : Nat} (I : Inv n p s c) (hx : x < n) (hy : y < n) (t : Nat) (ht : t < n) :
    (if rt n p t = rt n p x ∨ rt n p t = rt n p y then uWin n p s x y else rt n p t) = rt n (uP n p s x y) t := by
  rw [(I.union hx hy).2 t ht]
  rcases uWinLose n p s x y with ⟨e1, e2⟩ | ⟨e1, e2⟩ <;> rw [e1, e2]
  · by_cases h : rt n p t = rt n p y
    · rw [if_pos (Or.inr h), if_pos h]
    · rw [if_neg h]
      by_cases h2 : rt n p t = rt n p x
      · rw [if_pos (Or.inl h2), h2]
      · rw [if_neg (by rintro (h3 | h3); exact h2 h3; exact h h3)]
  · by_cases h : rt n p t = rt n p x
    · rw [if_pos (Or.inl h), if_pos h]
    · rw [if_neg h]
      by_cases h2 : rt n p t = rt n p y
      · rw [if_pos (Or.inr h2), h2]
      · rw [if_neg (by rintro (h3 | h3); exact h h3; exact h2 h3)]

set_option maxHeartbeats 8000000 in
set_option maxRecDepth 1000000 in
theorem walk (w : World) (a0 : Int) (w0 : (Lit.int .u16 a0).wf = true) (a1 : Option Addr) (n1 c1 : Nat) (zO zA zB : Nat → Int) (s1 : Rd3 .u8 .u16 .u16 w a1 n1 zO zA zB) (m1 : n1 ≤ maxLen)
    (wO : ∀ i, i < n1 → (Lit.int .u8 (zO i)).wf = true) (wA : ∀ i, i < n1 → (Lit.int .u16 (zA i)).wf = true) (wB : ∀ i, i < n1 → (Lit.int .u16 (zB i)).wf = true) (a2 : Int) (w2 : (Lit.int .i64 a2).wf = true) :
    Calls Ydbm.prog 6 #[.int .u16 a0, .slice a1 n1 c1, .int .i64 a2] w fun e w' => e = .returned (.bool true) ∧ Below w.heap.size w w' := by
  unfold maxLen at m1
  have b0 := bd_u16 w0
  clear w0 w2
  by_cases hlt : 1024 < n1
  · have hd : decide ((1024 : Int) < (n1 : Int)) = true := by simp; omega
    go_enter Ydbm.func6, Ydbm.ntmps6
    go_wp2_with fail
    go_ret
    exact ⟨rfl, Below.refl _ _⟩
  · have hd : decide ((1024 : Int) < (n1 : Int)) = false := by simp; omega
    obtain ⟨n, hn⟩ : ∃ n : Nat, a0 % 301 = n := Int.eq_ofNat_of_zero_le (by omega)
    have hn2 : n ≤ 300 := by omega
    have hm2 : n1 ≤ 1024 := by omega
    have hmk := mk n (by omega)
    go_enter Ydbm.func6, Ydbm.ntmps6
    go_upto_region 4 with fail
    rw [hn]
    clear b0 hlt hn hd
    go_wp2_with fail
    refine (new_yes n _ (by omega)).mono ?_
    rintro e wA1 ⟨b, bp, bs, rfl, hS, hb, hbp, hbs, hF⟩
    go_wp2_with fail
    have r0 := ARow.new wA1 n fun _ => 0
    replace hF := hF.alloc (.cells (row n fun _ => 0) 3)
    have lb := hS.lt
    have lbp := hS.hp.lt
    have lbs := hS.hs.lt
    replace hS := hS.alloc (.cells (row n fun _ => 0) 3)
    have hW : w.heap.size ≤ wA1.heap.size := by omega
    generalize wA1.heap.size = B at *
    generalize wA1.alloc (.cells (row n fun _ => 0) 3) = W at *
    go_loopw [11] (fun v wr => ∃ k : Nat, k ≤ n ∧ v = .int .i64 k ∧ SetsAt wr b bp bs n (fun i => (i : Int)) (fun _ => 1) n ∧ ARow wr B n (fil k (fun i => (i : Int)) fun _ => 0) ∧ Fr [] w wr) (fun v _ => n - (intOf v).toNat)
    case atStart => exact ⟨0, Nat.zero_le _, rfl, hS, r0.congr (by simp [fil]), hF⟩
    case round =>
      clear hS r0 hF
      obtain ⟨k, hk, rfl, hS, hA, hF⟩ := hrel
      by_cases hlt : k < n
      · have ck := hA.cell k hlt
        have fk := hA.frozen k
        go_wp2_with fail
        go_roundw
        case rel => exact ⟨k + 1, by omega, by go_num, hS.set_ne _ _ (by show B ≠ b; omega) (by show B ≠ bp; omega) (by show B ≠ bs; omega), hA.fill _ rfl, hF.setCell _ (.inr hW) _⟩
        case measure => simp [intOf] <;> omega
      · replace hA : ARow wr B n (fun i => (rt n (fun x => x) i : Int)) := hA.congr (fun i hi => by rw [fil_lt _ _ (by omega), rt_of_root n rfl])
        replace hS : SetsN wr b bp bs n (fun x => x) (fun _ => 1) n := hS
        clear hmk
        go_upto_if 51 with fail
        go_cut [] from 51 to 144 (fun wz => ∃ (p s : Nat → Nat) (c : Nat), SetsN wz b bp bs n p s c ∧ Inv n p s c ∧ ARow wz B n (fun i => (rt n p i : Int)) ∧ Fr [] w wz)
        case first =>
          by_cases h0 : n = 0
          · subst h0
            go_wp2_with fail
            go_meet
            case rel => exact ⟨fun x => x, fun _ => 1, 0, hS, inv_new 0, hA, hF⟩
          · have hpos : (0 : Int) < (n : Int) := by omega
            have hdp : decide ((0 : Int) < (n : Int)) = true := dec_true hpos
            have hdp' : decide (0 < n) = true := dec_true (by omega)
            rw [hdp']
            go_wp2_with fail
            clear hdp hdp'
            go_loopw [12] (fun v wr => ∃ (k : Nat) (p s : Nat → Nat) (c : Nat), k ≤ n1 ∧ v = .int .i64 k ∧ SetsN wr b bp bs n p s c ∧ Inv n p s c ∧ ARow wr B n (fun i => (rt n p i : Int)) ∧ Fr [] w wr) (fun v _ => n1 - (intOf v).toNat)
            case atStart => exact ⟨0, fun x => x, fun _ => 1, n, Nat.zero_le _, rfl, hS, inv_new n, hA, hF⟩
            case round =>
              clear hS hA hF
              obtain ⟨j, p, s, c, hj, rfl, hS, I, hA, hF⟩ := hrel
              by_cases hlt2 : j < n1
              · obtain ⟨b1, o1, rfl, cO, cA, cB⟩ := (hF.rd30 s1) j hlt2
                have bO := bd_u8 (wO j hlt2)
                have bA := bd_u16 (wA j hlt2)
                have bB := bd_u16 (wB j hlt2)
                have q0 : 0 ≤ zA j % (n : Int) := emod_lo _ (by omega)
                have q1 : zA j % (n : Int) < (n : Int) := emod_hi _ (by omega)
                have q2 : 0 ≤ zB j % (n : Int) := emod_lo _ (by omega)
                have q3 : zB j % (n : Int) < (n : Int) := emod_hi _ (by omega)
                have lt' : (j : Int) < (n1 : Int) := by omega
                go_upto_region 18 with fail
                obtain ⟨x, hx⟩ : ∃ x : Nat, zA j % (n : Int) = x := Int.eq_ofNat_of_zero_le q0
                obtain ⟨y, hy⟩ : ∃ y : Nat, zB j % (n : Int) = y := Int.eq_ofNat_of_zero_le q2
                rw [hx, hy]
                have x1 : x < n := by omega
                have y1 : y < n := by omega
                clear hx hy q0 q1 q2 q3 bA bB cA cB
                by_cases eo : zO j % 4 = 3
                · have ee : (zO j % 4 == 3) = true := by simp [eo]
                  clear eo
                  go_wp2_with fail
                  refine (compress_inv b bp bs n p s c _ _ hS I).mono ?_
                  rintro e w2 ⟨rfl, q, hS2, I2, hrt, hF2⟩
                  have hA2 : ARow w2 B n (fun i => (rt n q i : Int)) := (hF2.aRow hA (by simp; omega)).congr (fun i hi => by rw [hrt i hi])
                  have hF3 : Fr [] w w2 := hF.trans' hF2 (by intro x hx hl; simp at hx; omega)
                  clear hrt hS hF hF2 hA I
                  go_wp2_with fail
                  go_roundw
                  case rel => exact ⟨j + 1, q, s, c, by omega, by go_num, hS2, I2, hA2, hF3⟩
                  case measure => simp [intOf] <;> omega
                · have ee : (zO j % 4 == 3) = false := by simp [eo]
                  clear eo
                  go_wp2_with fail
                  refine (union_in b bp bs n p s c x y _ hS I (by omega) x1 y1).mono ?_
                  rintro e w2 ⟨rfl, hS2, hF2⟩
                  have F := I.forest
                  have Hrt := hide (join_both I x1 y1)
                  have I2 := (I.union (a := x) (b := y) x1 y1).1
                  have la := F.rt_lt x x1
                  have lbb := F.rt_lt y y1
                  have Sa := hide (I.cls _ la (F.root x x1))
                  have Sb := hide (I.cls _ lbb (F.root y y1))
                  have hA2 := hF2.aRow hA (by simp; omega)
                  have hF3 : Fr [] w w2 := hF.trans' hF2 (by intro x hx hl; simp at hx; omega)
                  have cx := hA2.cell x x1
                  have cy := hA2.cell y y1
                  clear hA hF hF2 hS ee cO bO F
                  have Hw : Hid (uWin n p s x y = if s (rt n p x) < s (rt n p y) then rt n p y else rt n p x) := rfl
                  go_wp2_with fail
                  generalize hra : rt n p x = ra at *
                  generalize hrb : rt n p y = rb at *
                  clear hra hrb
                  go_loop [17, 18, 19] (fun v15 v16 v17 => ∃ i : Nat, i ≤ n ∧ v17 = .int .i64 i ∧ v15 = .int .i64 (cnt (fun x => rt n p x == ra) i) ∧ v16 = .int .i64 (cnt (fun x => rt n p x == rb) i)) (fun _ _ v17 => n - (intOf v17).toNat)
                  case atStart => exact ⟨0, Nat.zero_le _, rfl, rfl, rfl⟩
                  case round =>
                    obtain ⟨i, hi, rfl, rfl, rfl⟩ := hrel
                    have k1 := cnt_le (fun x => rt n p x == ra) i
                    have k2 := cnt_le (fun x => rt n p x == rb) i
                    by_cases hlt3 : i < n
                    · have ci := hA2.cell i hlt3
                      have st1 := hide (cnt_eq_step (rt n p) ra i)
                      have st2 := hide (cnt_eq_step (rt n p) rb i)
                      have Cx := hide cx
                      have Cy := hide cy
                      clear cx cy
                      by_cases e1 : rt n p i = ra
                      · have E1 := hide e1
                        rw [e1] at ci
                        by_cases e2 : ra = rb
                        · subst e2
                          clear e1
                          go_wp2_with fail
                          go_round
                          case rel => exact ⟨i + 1, by omega, by go_num, by rw [st1.out, if_pos E1.out]; go_num, by rw [st2.out, if_pos E1.out]; go_num⟩
                          case measure => simp [intOf] <;> omega
                        · have f2 := beq_nat e2
                          clear e1
                          go_wp2_with fail
                          go_round
                          case rel => exact ⟨i + 1, by omega, by go_num, by rw [st1.out, if_pos E1.out]; go_num, by rw [st2.out, if_neg (by rw [E1.out]; exact e2)]; go_num⟩
                          case measure => simp [intOf] <;> omega
                      · have f1 := beq_nat e1
                        by_cases e2 : rt n p i = rb
                        · have E2 := hide e2
                          rw [e2] at ci f1
                          have g1 : ¬ rb = ra := fun h => e1 (e2.trans h)
                          clear e1 e2
                          go_wp2_with fail
                          go_round
                          case rel => exact ⟨i + 1, by omega, by go_num, by rw [st1.out, if_neg (by rw [E2.out]; exact g1)]; go_num, by rw [st2.out, if_pos E2.out]; go_num⟩
                          case measure => simp [intOf] <;> omega
                        · have f2 := beq_nat e2
                          go_wp2_with fail
                          go_round
                          case rel => exact ⟨i + 1, by omega, by go_num, by rw [st1.out, if_neg e1]; go_num, by rw [st2.out, if_neg e2]; go_num⟩
                          case measure => simp [intOf] <;> omega
                    · have hin : i = n := by omega
                      subst hin
                      rw [← Sa.out, ← Sb.out]
                      clear k1 k2 cx cy
                      go_upto_if 120 with fail
                      go_cut [20] from 120 to 121 (fun v20 wr => v20 = .int .i64 (uWin i p s x y) ∧ w2 = wr)
                      case first =>
                        by_cases hsz : s ra < s rb
                        · have hd := dec_true (show (s ra : Int) < (s rb : Int) by omega)
                          have hd' := dec_true hsz
                          rw [if_pos hsz] at Hw
                          go_wp2_with fail
                          go_meet
                          case rel => exact ⟨by rw [Hw.out], rfl⟩
                        · have hd := dec_false (show ¬ (s ra : Int) < (s rb : Int) by omega)
                          have hd' := dec_false hsz
                          rw [if_neg hsz] at Hw
                          go_wp2_with fail
                          go_meet
                          case rel => exact ⟨by rw [Hw.out], rfl⟩
                      case rest =>
                        obtain ⟨rfl, rfl⟩ := hcut
                        clear Hw Sa Sb
                        generalize uWin i p s x y = K at *
                        go_wp2_with fail
                        go_loopw [21] (fun v wr => ∃ l : Nat, l ≤ i ∧ v = .int .i64 l ∧ SetsN wr b bp bs i (uP i p s x y) (uS i p s x y) (uC i p c x y) ∧ ARow wr B i (fil l (fun t => if rt i p t = ra ∨ rt i p t = rb then (K : Int) else rt i p t) fun t => (rt i p t : Int)) ∧ Fr [] w wr) (fun v _ => i - (intOf v).toNat)
                        case atStart => exact ⟨0, Nat.zero_le _, rfl, hS2, hA2.congr (by simp [fil]), hF3⟩
                        case round =>
                          clear hS2 hA2 hF3
                          obtain ⟨l, hl, rfl, hS, hA, hF⟩ := hrel
                          by_cases hlt4 : l < i
                          · have cl := hA.cell l hlt4
                            rw [fil_ge _ _ (Nat.lt_irrefl l)] at cl
                            have fl := hA.frozen l
                            by_cases e : rt i p l = ra
                            · have E := hide e
                              rw [e] at cl
                              clear e
                              go_wp2_with fail
                              go_roundw
                              case rel => exact ⟨l + 1, by omega, by go_num, SetsAt.set_ne hS _ _ (by show B ≠ b; omega) (by show B ≠ bp; omega) (by show B ≠ bs; omega), hA.fill _ (by rw [if_pos (Or.inl E.out)]), hF.setCell _ (.inr hW) _⟩
                              case measure => simp [intOf] <;> omega
                            · by_cases e2 : rt i p l = rb
                              · have E := hide e2
                                have f1 := beq_nat e
                                rw [e2] at cl f1
                                clear e e2
                                go_wp2_with fail
                                go_roundw
                                case rel => exact ⟨l + 1, by omega, by go_num, SetsAt.set_ne hS _ _ (by show B ≠ b; omega) (by show B ≠ bp; omega) (by show B ≠ bs; omega), hA.fill _ (by rw [if_pos (Or.inr E.out)]), hF.setCell _ (.inr hW) _⟩
                                case measure => simp [intOf] <;> omega
                              · have f1 := beq_nat e
                                have f2 := beq_nat e2
                                go_wp2_with fail
                                go_roundw
                                case rel => exact ⟨l + 1, by omega, by go_num, hS, hA.fskip (by rw [if_neg (by rintro (h | h); exact e h; exact e2 h)]), hF⟩
                                case measure => simp [intOf] <;> omega
                          · replace hA : ARow wr B i (fun t => (rt i (uP i p s x y) t : Int)) := hA.congr (fun t ht => by
                              rw [fil_lt _ _ (by omega), ← Hrt.out t ht]
                              split <;> rfl)
                            go_wp2_with fail
                            go_roundw
                            case rel => exact ⟨j + 1, _, _, _, by omega, by go_num, hS, I2, hA, hF⟩
                            case measure => simp [intOf] <;> omega
              · go_wp2_with fail
                go_meet
                case rel => exact ⟨p, s, c, hS, I, hA, hF⟩
        case rest =>
          clear hS hA hF
          obtain ⟨p, s, c, hS, I, hA, hF⟩ := hcut
          clear s1 wO wA wB
          have F := I.forest
          have c0 := SetsAt.c0 hS
          have c1 := SetsAt.c1 hS
          have c2 := SetsAt.c2 hS
          go_wp2_with fail
          refine (fcopy_any _ n n (fun i => (p i : Int)) _ (by omega) hS.hp.rd).mono ?_
          rintro e x0 ⟨bo0, rfl, R0, _, hG⟩
          clear c0 c1 c2
          replace hS : SetsN x0 b bp bs n p s c := SetsAt.fr0 hS hG
          replace hA := hG.aRow hA (by simp)
          replace hF := hF.trans hG
          clear hG
          have c0 := SetsAt.c0 hS
          have c1 := SetsAt.c1 hS
          have c2 := SetsAt.c2 hS
          go_wp2_with fail
          refine (fcopy_any _ n n (fun i => (s i : Int)) _ (by omega) hS.hs.rd).mono ?_
          rintro e x1 ⟨bo1, rfl, R1, _, hG⟩
          clear c0 c1 c2
          replace hS : SetsN x1 b bp bs n p s c := SetsAt.fr0 hS hG
          replace hA := hG.aRow hA (by simp)
          replace R0 := hG.aRow R0 (by simp)
          replace hF := hF.trans hG
          clear hG
          have c0 := SetsAt.c0 hS
          have c1 := SetsAt.c1 hS
          have c2 := SetsAt.c2 hS
          go_wp2_with fail
          refine (fagrees_yes b n n n _ _ p _ a2 _ (SetsAt.c0 hS) hS.hp.rd F hA.rd).mono ?_
          rintro e w3 ⟨rfl, rfl⟩
          go_wp2_with fail
          go_loop [25] (fun v => ∃ i : Int, -1 ≤ i ∧ i ≤ n + 1 ∧ v = .int .i64 i) (fun v => ((n : Int) + 1 - intOf v).toNat)
          case atStart => exact ⟨-1, by omega, by omega, rfl⟩
          case round =>
            obtain ⟨i, hi1, hi2, rfl⟩ := hrel
            by_cases hi : i ≤ n
            · have hdd := dec_true hi
              go_wp2_with fail
              refine (fagrees_yes b n n n _ _ p _ i _ (SetsAt.c0 hS) hS.hp.rd F hA.rd).mono ?_
              rintro e w4 ⟨rfl, rfl⟩
              go_wp2_with fail
              go_round
              case rel => exact ⟨i + 1, by omega, by omega, rfl⟩
              case measure => simp [intOf] <;> omega
            · have hdd := dec_false hi
              clear hi hi1 hi2 hA
              have eC : ((c : Int) == (c : Int)) = true := by simp
              go_wp2_with fail
              refine (feq_any _ _ n n n n (fun i => (p i : Int)) (fun i => (p i : Int)) _ (by omega) (by omega) hS.hp.rd R0.rd).mono ?_
              rintro e y0 ⟨ht, hG⟩
              obtain rfl := told ht ⟨rfl, fun _ _ => rfl⟩
              clear ht c0 c1 c2 R0
              replace hS : SetsN y0 b bp bs n p s c := SetsAt.fr0 hS hG
              replace R1 := hG.aRow R1 (by simp)
              replace hF := hF.trans hG
              clear hG
              have c0 := SetsAt.c0 hS
              have c1 := SetsAt.c1 hS
              have c2 := SetsAt.c2 hS
              go_wp2_with fail
              refine (feq_any _ _ n n n n (fun i => (s i : Int)) (fun i => (s i : Int)) _ (by omega) (by omega) hS.hs.rd R1.rd).mono ?_
              rintro e y1 ⟨ht, hG⟩
              obtain rfl := told ht ⟨rfl, fun _ _ => rfl⟩
              clear ht c0 c1 c2 R1
              replace hS : SetsN y1 b bp bs n p s c := SetsAt.fr0 hS hG
              replace hF := hF.trans hG
              clear hG
              have c2 := SetsAt.c2 hS
              go_wp2_with fail
              go_ret
              exact ⟨by simp, hF.below⟩

theorem own : ownKnob Ydbm.prog.godebug = none := by kernel_rfl
theorem laidOut : laidOutB Ydbm.prog = true := by kernel_rfl
set_option maxRecDepth 100000 in
theorem lifted (os : Os) (started : os.Started) (H : Type) (enc : TypeId × Value → H) :
    ReturnsInHanded {} Ydbm.checked os 6 .any (Rows.lawS930009FScriptSpec.pre6 enc Ydbm.prog Ydbm.f6 Rows.lawS930009FScriptRow.domain false) (Rows.lawS930009FScriptSpec.post enc Ydbm.prog Ydbm.f6 false true false false) := by
  refine returnsInHanded_of_change (C := Ydbm.checked) own started (by kernel_rfl) Ydbm.func6
    (ChangeSpec.witness6 (enc := enc) (C := Ydbm.checked) false ⟨#[], #[.int .u16 0, .slice none 0 0, .int .i64 0], []⟩ 8 (by kernel_rfl) (by kernel_rfl) (by kernel_rfl) (by kernel_rfl)) ?_
  intro W base args ds gs before hval0 hW hcnd _
  have hval : ∀ (j : Nat) t v, Ydbm.f6.params[j]? = some t → args[j]? = some v → Value.okWide Ydbm.prog W .any base t v := hval0
  have hW' := hW
  obtain ⟨p, q, hA0, hV, rfl, hfz, hnd⟩ := hW
  have hA : DataW.TrodAll enc Ydbm.prog W 0 (fun _ => true) true Ydbm.f6.params.toList args.toList ds p := hA0
  rw [Ydbm.params6] at hA hval
  obtain ⟨v0, vs0, d0, ds0, p0, q0, hargs, rfl, rfl, h0, r0⟩ := trodAll_cons hA
  obtain ⟨v1, vs1, d1, ds1, p1, q1, rfl, rfl, rfl, h1, r1⟩ := trodAll_cons r0
  obtain ⟨v2, vs2, d2, ds2, p2, q2, rfl, rfl, rfl, h2, r2⟩ := trodAll_cons r1
  obtain ⟨rfl, rfl, rfl⟩ := trodAll_nil r2
  obtain rfl : args = #[v0, v1, v2] := by cases args; simp_all
  obtain ⟨rfl, rfl⟩ := trodVars_none hV
  obtain ⟨a0, rfl, rfl, rfl, w0⟩ := open_int Ydbm.underlying35 (hval 0 35 v0 rfl rfl) h0
  obtain ⟨a1, n1, c1, rfl⟩ := okWide_slice Ydbm.underlying38 (hval 1 38 v1 rfl rfl)
  have lt1 : ∀ x ∈ p1, x.block < W.heap.size := by obtain ⟨m, hm⟩ := h1; exact DataW.trod_lt m _ _ _ hm
  obtain ⟨z10, z11, z12, s1, m1, w10, w11, w12⟩ := rd3_of_trod Ydbm.underlying38 Ydbm.underlying42 (by kernel_rfl) rfl rfl rfl rfl rfl rfl Ydbm.underlying5 Ydbm.underlying35 Ydbm.underlying35 (by kernel_rfl) (by kernel_rfl) (by kernel_rfl) h1
  obtain ⟨a2, rfl, rfl, rfl, w2⟩ := open_int Ydbm.underlying3 (hval 2 3 v2 rfl rfl) h2
  clear hA0 hval0
  refine (walk W a0 w0 a1 n1 c1 z10 z11 z12 s1 m1 w10 w11 w12 a2 w2).mono fun e W' ⟨he, bel⟩ => ?_
  subst he
  exact ⟨_, rfl, _, _, _, [], _, [], hW', trodAll_mk1 (shut_bool Ydbm.underlying4 _), (cons_mk (shut_int Ydbm.underlying35 w0) (cons_mk (Below.trod laidOut (by kernel_rfl) (of_decide_eq_true (by kernel_rfl)) h1 bel lt1) (cons_mk (shut_int Ydbm.underlying3 w2) trodAll_mk0))), rfl, bel.frame _, fun h => by cases h⟩

theorem over : Rows.lawS930009FScriptRow.holds Ydbm.pinned (OpenSpec.ofChange Rows.lawS930009FScriptSpec) :=
  OpenClaim.holds_of_wide 6 Ydbm.f6 rfl rfl rfl rfl rfl rfl rfl ⟨rfl, rfl, rfl, rfl, rfl⟩ rfl rfl rfl rfl rfl (by kernel_rfl) Ydbm.func6 (by kernel_rfl)
    (of_decide_eq_true (by kernel_rfl)) (by unfold Func.isWrapper; first | (rw [if_pos (by decide +kernel)]; kernel_rfl) | (rw [if_neg (by decide +kernel)]; exact ⟨rfl, rfl⟩))
    (fun os started H enc _ => lifted os started H enc)

theorem proved : Rows.LawS930009FScriptSaid := over
#print axioms proved
end Go.Proofs.Ymbrdb.lawS930009FScript
