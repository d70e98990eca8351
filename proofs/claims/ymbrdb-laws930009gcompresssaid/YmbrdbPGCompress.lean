/-
  LawS930009GCompress.
-/
import Derived.Test.YmbrdbGForest
namespace Go.Proofs.Ymbrdb.lawS930009GCompress
open Go.ChangeShapes Go.WideShapes Go.ChangeAt Go.RowKit
set_option linter.unusedVariables false
set_option linter.unusedSimpArgs false

set_option maxHeartbeats 1000000 in
theorem walk (w : World) (a0 : Option Addr) (n0 c0 : Nat) (z0 : Nat → Int) (s0 : Rd .u16 w a0 n0 z0) (m0 : n0 ≤ maxLen) (w0 : ∀ i, i < n0 → (Lit.int .u16 (z0 i)).wf = true) (up : Bool) (a2 : Int) (w2 : (Lit.int .u64 a2).wf = true) (a3 : Int) (w3 : (Lit.int .u64 a3).wf = true) :
    Calls Ydbm.prog 10 #[.slice a0 n0 c0, .bool up, .int .u64 a2, .int .u64 a3] w fun e w' => e = .returned (.bool true) ∧ Below w.heap.size w w' := by
  unfold maxLen at m0
  have b2 := bd_u64 w2
  have b3 := bd_u64 w3
  clear w2 w3
  by_cases hlt : 1024 < n0
  · have hd : decide ((1024 : Int) < (n0 : Int)) = true := by simp; omega
    go_enter Ydbm.func10, Ydbm.ntmps10
    go_wp2_with fail
    go_ret
    exact ⟨rfl, Below.refl _ _⟩
  · have hd : decide ((1024 : Int) < (n0 : Int)) = false := by simp; omega
    have hn : n0 ≤ 1024 := by omega
    have F := gforest_forest (n0 + 1) z0 up
    go_enter Ydbm.func10, Ydbm.ntmps10
    go_wp2_with fail
    refine (gforest_any n0 c0 a0 z0 up _ s0 hn w0).mono ?_
    rintro e w1 ⟨bp, bw, rfl, hp, hw, l1, l2, ne1, hF⟩
    have q0 : 0 ≤ a2 % ((n0 : Int) + 1) := emod_lo _ (by omega)
    have q1 : a2 % ((n0 : Int) + 1) < (n0 : Int) + 1 := emod_hi _ (by omega)
    have q2 : 0 ≤ a3 % ((n0 : Int) + 1) := emod_lo _ (by omega)
    have q3 : a3 % ((n0 : Int) + 1) < (n0 : Int) + 1 := emod_hi _ (by omega)
    go_wp2_with fail
    obtain ⟨x, hx⟩ : ∃ x : Nat, a2 % ((n0 : Int) + 1) = x := Int.eq_ofNat_of_zero_le q0
    obtain ⟨y, hy⟩ : ∃ y : Nat, a3 % ((n0 : Int) + 1) = y := Int.eq_ofNat_of_zero_le q2
    rw [hx, hy]
    have x1 : x < n0 + 1 := by omega
    have y1 : y < n0 + 1 := by omega
    clear hx q0 q1 b2 hy q2 q3 b3
    have l3 : bp < w1.heap.size := hp.lt
    have l4 : bw < w1.heap.size := hw.lt
    have hF := hF.alloc (.cells #[.slice (some ⟨bp, 0, none⟩) (n0 + 1) (n0 + 1), .slice none 0 0, .int .i64 1] 29)
    have hp := hp.alloc (.cells #[.slice (some ⟨bp, 0, none⟩) (n0 + 1) (n0 + 1), .slice none 0 0, .int .i64 1] 29)
    have hw := hw.alloc (.cells #[.slice (some ⟨bp, 0, none⟩) (n0 + 1) (n0 + 1), .slice none 0 0, .int .i64 1] 29)
    have cc : (w1.alloc (.cells #[.slice (some ⟨bp, 0, none⟩) (n0 + 1) (n0 + 1), .slice none 0 0, .int .i64 1] 29)).cell? ⟨w1.heap.size, 0, none⟩ = some (.slice (some ⟨bp, 0, none⟩) (n0 + 1) (n0 + 1)) := by simp
    generalize w1.alloc (.cells #[.slice (some ⟨bp, 0, none⟩) (n0 + 1) (n0 + 1), .slice none 0 0, .int .i64 1] 29) = W at *
    generalize w1.heap.size = B at *
    have cx := hw.cell y y1
    have ex : ((rt (n0 + 1) (gp (n0 + 1) z0 up) y : Int) != (rt (n0 + 1) (gp (n0 + 1) z0 up) y : Int)) = false := by simp
    go_quiet ((go_at_call 28; exact Calls.quiet_of_same (root_any B (n0 + 1) (n0 + 1) _ (gp (n0 + 1) z0 up) _ y _ cc hp.rd F y1)))
    go_wp2_with fail
    refine (compress_row B bp (n0 + 1) (n0 + 1) (gp (n0 + 1) z0 up) _ x _ (cell_drewN cc _) (hp.drewN _) (by omega) F x1).mono ?_
    rintro e w3 ⟨rfl, q, hq, hp3, hF3⟩
    have FQ := hq.forest F x1
    have rq := hq.rt F x1 y y1
    have RQ := hide rq
    have qx := hq.self x1
    have QX := hide qx
    clear rq qx cx
    have cc3 := (hF3.cell (p := ⟨B, 0, none⟩) (World.block_lt_of_cell? _ _ (cell_drewN cc _)) (by simp; omega)).trans (cell_drewN cc _)
    have hw3 := hF3.aRow (hw.drewN _) (by simpa using Ne.symm ne1)
    have hF4 : Fr [] w w3 := (hF.drewN _).trans' hF3 (by intro x hx hl; simp at hx; omega)
    have cy := hw3.cell y y1
    have cx := hw3.cell x x1
    have cq := hp3.cell x x1
    rw [QX.out] at cq
    have hroot : ∀ k, Calls Ydbm.prog 28 #[.pointer (some ⟨B, 0, none⟩), .int .i64 y] (w3.drewN k) fun e w' => e = .returned (.int .i64 (rt (n0 + 1) (gp (n0 + 1) z0 up) y)) ∧ w' = w3.drewN k := fun k => by
      rw [← RQ.out]
      exact root_any B (n0 + 1) (n0 + 1) _ q _ y _ (cell_drewN cc3 _) (hp3.drewN _).rd FQ y1
    have Hroot := hide hroot
    clear hroot
    go_wp2_with fail
    go_quiet ((go_at_call 28; exact Calls.quiet_of_same (Hroot.out _)))
    go_wp2_with fail
    go_ret
    exact ⟨by simp, (hF4.drewN _).below⟩

theorem own : ownKnob Ydbm.prog.godebug = none := by kernel_rfl
theorem laidOut : laidOutB Ydbm.prog = true := by kernel_rfl
set_option maxRecDepth 100000 in
theorem lifted (os : Os) (started : os.Started) (H : Type) (enc : TypeId × Value → H) :
    ReturnsInHanded {} Ydbm.checked os 10 .any (Rows.lawS930009GCompressSpec.pre6 enc Ydbm.prog Ydbm.f10 Rows.lawS930009GCompressRow.domain false) (Rows.lawS930009GCompressSpec.post enc Ydbm.prog Ydbm.f10 false true false false) := by
  refine returnsInHanded_of_change (C := Ydbm.checked) own started (by kernel_rfl) Ydbm.func10
    (ChangeSpec.witness6 (enc := enc) (C := Ydbm.checked) false ⟨#[], #[.slice none 0 0, .bool false, .int .u64 0, .int .u64 0], []⟩ 8 (by kernel_rfl) (by kernel_rfl) (by kernel_rfl) (by kernel_rfl)) ?_
  intro W base args ds gs before hval0 hW hcnd _
  have hval : ∀ (j : Nat) t v, Ydbm.f10.params[j]? = some t → args[j]? = some v → Value.okWide Ydbm.prog W .any base t v := hval0
  have hW' := hW
  obtain ⟨p, q, hA0, hV, rfl, hfz, hnd⟩ := hW
  have hA : DataW.TrodAll enc Ydbm.prog W 0 (fun _ => true) true Ydbm.f10.params.toList args.toList ds p := hA0
  rw [Ydbm.params10] at hA hval
  obtain ⟨v0, vs0, d0, ds0, p0, q0, hargs, rfl, rfl, h0, r0⟩ := trodAll_cons hA
  obtain ⟨v1, vs1, d1, ds1, p1, q1, rfl, rfl, rfl, h1, r1⟩ := trodAll_cons r0
  obtain ⟨v2, vs2, d2, ds2, p2, q2, rfl, rfl, rfl, h2, r2⟩ := trodAll_cons r1
  obtain ⟨v3, vs3, d3, ds3, p3, q3, rfl, rfl, rfl, h3, r3⟩ := trodAll_cons r2
  obtain ⟨rfl, rfl, rfl⟩ := trodAll_nil r3
  obtain rfl : args = #[v0, v1, v2, v3] := by cases args; simp_all
  obtain ⟨rfl, rfl⟩ := trodVars_none hV
  obtain ⟨a0, n0, c0, rfl⟩ := okWide_slice Ydbm.underlying34 (hval 0 34 v0 rfl rfl)
  have lt0 : ∀ x ∈ p0, x.block < W.heap.size := by obtain ⟨m, hm⟩ := h0; exact DataW.trod_lt m _ _ _ hm
  obtain ⟨z0, s0, m0, w0⟩ := rd_of_trod Ydbm.underlying34 Ydbm.underlying35 (by kernel_rfl) h0
  obtain ⟨a1, rfl, rfl, rfl⟩ := open_bool Ydbm.underlying4 (hval 1 4 v1 rfl rfl) h1
  obtain ⟨a2, rfl, rfl, rfl, w2⟩ := open_int Ydbm.underlying47 (hval 2 47 v2 rfl rfl) h2
  obtain ⟨a3, rfl, rfl, rfl, w3⟩ := open_int Ydbm.underlying47 (hval 3 47 v3 rfl rfl) h3
  clear hA0 hval0
  refine (walk W a0 n0 c0 z0 s0 m0 w0 a1 a2 w2 a3 w3).mono fun e W' ⟨he, bel⟩ => ?_
  subst he
  exact ⟨_, rfl, _, _, _, [], _, [], hW', trodAll_mk1 (shut_bool Ydbm.underlying4 _), (cons_mk (Below.trod laidOut (by kernel_rfl) (of_decide_eq_true (by kernel_rfl)) h0 bel lt0) (cons_mk (shut_bool Ydbm.underlying4 a1) (cons_mk (shut_int Ydbm.underlying47 w2) (cons_mk (shut_int Ydbm.underlying47 w3) trodAll_mk0)))), rfl, bel.frame _, fun h => by cases h⟩

theorem over : Rows.lawS930009GCompressRow.holds Ydbm.pinned (OpenSpec.ofChange Rows.lawS930009GCompressSpec) :=
  OpenClaim.holds_of_wide 10 Ydbm.f10 rfl rfl rfl rfl rfl rfl rfl ⟨rfl, rfl, rfl, rfl, rfl⟩ rfl rfl rfl rfl rfl (by kernel_rfl) Ydbm.func10 (by kernel_rfl)
    (of_decide_eq_true (by kernel_rfl)) (by unfold Func.isWrapper; first | (rw [if_pos (by decide +kernel)]; kernel_rfl) | (rw [if_neg (by decide +kernel)]; exact ⟨rfl, rfl⟩))
    (fun os started H enc _ => lifted os started H enc)

theorem proved : Rows.LawS930009GCompressSaid := over
#print axioms proved

end Go.Proofs.Ymbrdb.lawS930009GCompress
