/- PART of the proof of MapsPieces: The functions that the run comes to: by program. No condition. -/
import Derived.Test.YtkdjfcimbbihdaaGreatDoorT1
/-! The functions that the run comes to: by program. -/
namespace Go.Proofs.YtkdjfcimbbihdaaGreatDoor.Run
open Go Go.Abs
set_option maxRecDepth 100000
def gl : List Nat := [1, 0]
theorem c3 : compF Tryz.prog gl Tryz.f3 = some i3.plain := by kernel_rfl
theorem c4 : compF Tryz.prog gl Tryz.f4 = some i4.plain := by kernel_rfl
theorem c6 : compF Tryz.prog gl Tryz.f6 = some i6.plain := by kernel_rfl
theorem c7 : compF Tryz.prog gl Tryz.f7 = some i7.plain := by kernel_rfl
theorem c8 : compF Tryz.prog gl Tryz.f8 = some i8.plain := by kernel_rfl
theorem c9 : compF Tryz.prog gl Tryz.f9 = some i9.plain := by kernel_rfl
theorem c10 : compF Tryz.prog gl Tryz.f10 = some i10.plain := by kernel_rfl
theorem c11 : compF Tryz.prog gl Tryz.f11 = some i11.plain := by kernel_rfl
theorem c12 : compF Tryz.prog gl Tryz.f12 = some i12.plain := by kernel_rfl
theorem c13 : compF Tryz.prog gl Tryz.f13 = some i13.plain := by kernel_rfl
theorem c15 : compF Tryz.prog gl Tryz.f15 = some i15.plain := by kernel_rfl
theorem c16 : compF Tryz.prog gl Tryz.f16 = some i16.plain := by kernel_rfl
theorem c17 : compF Tryz.prog gl Tryz.f17 = some i17.plain := by kernel_rfl
theorem c18 : compF Tryz.prog gl Tryz.f18 = some i18.plain := by kernel_rfl
theorem c19 : compF Tryz.prog gl Tryz.f19 = some i19.plain := by kernel_rfl
theorem c20 : compF Tryz.prog gl Tryz.f20 = some i20.plain := by kernel_rfl
theorem c21 : compF Tryz.prog gl Tryz.f21 = some i21.plain := by kernel_rfl
theorem c22 : compF Tryz.prog gl Tryz.f22 = some i22.plain := by kernel_rfl
theorem c23 : compF Tryz.prog gl Tryz.f23 = some i23.plain := by kernel_rfl
theorem c24 : compF Tryz.prog gl Tryz.f24 = some i24.plain := by kernel_rfl
theorem c25 : compF Tryz.prog gl Tryz.f25 = some i25.plain := by kernel_rfl
theorem c26 : compF Tryz.prog gl Tryz.f26 = some i26.plain := by kernel_rfl
theorem c27 : compF Tryz.prog gl Tryz.f27 = some i27.plain := by kernel_rfl
theorem c28 : compF Tryz.prog gl Tryz.f28 = some i28.plain := by kernel_rfl
theorem c29 : compF Tryz.prog gl Tryz.f29 = some i29.plain := by kernel_rfl
theorem c30 : compF Tryz.prog gl Tryz.f30 = some i30.plain := by kernel_rfl
theorem c31 : compF Tryz.prog gl Tryz.f31 = some i31.plain := by kernel_rfl
theorem c32 : compF Tryz.prog gl Tryz.f32 = some i32.plain := by kernel_rfl
theorem c33 : compF Tryz.prog gl Tryz.f33 = some i33.plain := by kernel_rfl
theorem c34 : compF Tryz.prog gl Tryz.f34 = some i34.plain := by kernel_rfl
theorem c35 : compF Tryz.prog gl Tryz.f35 = some i35.plain := by kernel_rfl
theorem c36 : compF Tryz.prog gl Tryz.f36 = some i36.plain := by kernel_rfl
theorem c37 : compF Tryz.prog gl Tryz.f37 = some i37.plain := by kernel_rfl
theorem c38 : compF Tryz.prog gl Tryz.f38 = some i38.plain := by kernel_rfl
theorem c39 : compF Tryz.prog gl Tryz.f39 = some i39.plain := by kernel_rfl
theorem c40 : compF Tryz.prog gl Tryz.f40 = some i40.plain := by kernel_rfl
theorem c41 : compF Tryz.prog gl Tryz.f41 = some i41.plain := by kernel_rfl
theorem c42 : compF Tryz.prog gl Tryz.f42 = some i42.plain := by kernel_rfl
theorem c80 : compF Tryz.prog gl Tryz.f80 = some i80.plain := by kernel_rfl
theorem c81 : compF Tryz.prog gl Tryz.f81 = some i81.plain := by kernel_rfl
theorem c82 : compF Tryz.prog gl Tryz.f82 = some i82.plain := by kernel_rfl
theorem c83 : compF Tryz.prog gl Tryz.f83 = some i83.plain := by kernel_rfl
theorem c90 : compF Tryz.prog gl Tryz.f90 = some i90.plain := by kernel_rfl
theorem c91 : compF Tryz.prog gl Tryz.f91 = some i91.plain := by kernel_rfl
theorem c93 : compF Tryz.prog gl Tryz.f93 = some i93.plain := by kernel_rfl
theorem c95 : compF Tryz.prog gl Tryz.f95 = some i95.plain := by kernel_rfl
theorem c96 : compF Tryz.prog gl Tryz.f96 = some i96.plain := by kernel_rfl
theorem c98 : compF Tryz.prog gl Tryz.f98 = some i98.plain := by kernel_rfl
theorem c281 : compF Tryz.prog gl Tryz.f281 = some i281.plain := by kernel_rfl
theorem c282 : compF Tryz.prog gl Tryz.f282 = some i282.plain := by kernel_rfl
theorem c306 : compF Tryz.prog gl Tryz.f306 = some i306.plain := by kernel_rfl
theorem c307 : compF Tryz.prog gl Tryz.f307 = some i307.plain := by kernel_rfl
theorem c308 : compF Tryz.prog gl Tryz.f308 = some i308.plain := by kernel_rfl
theorem c309 : compF Tryz.prog gl Tryz.f309 = some i309.plain := by kernel_rfl
def fns : List (Nat × FnI) := [(3, i3), (4, i4), (6, i6), (7, i7), (8, i8), (9, i9), (10, i10), (11, i11), (12, i12), (13, i13), (15, i15), (16, i16), (17, i17), (18, i18), (19, i19), (20, i20), (21, i21), (22, i22), (23, i23), (24, i24), (25, i25), (26, i26), (27, i27), (28, i28), (29, i29), (30, i30), (31, i31), (32, i32), (33, i33), (34, i34), (35, i35), (36, i36), (37, i37), (38, i38), (39, i39), (40, i40), (41, i41), (42, i42), (80, i80), (81, i81), (82, i82), (83, i83), (90, i90), (91, i91), (93, i93), (95, i95), (96, i96), (98, i98), (281, i281), (282, i282), (306, i306), (307, i307), (308, i308), (309, i309)]
def meths : List ((TypeId × String) × FuncId) := [((152, "Step"), 307), ((152, "Result"), 306), ((101, "Step"), 282), ((101, "Result"), 281)]
def tbl : T FnI := (.n (.n (.n (.n (.n (.n .e (some i31) (.n .e (some i95) .e)) (some i15) .e) (some i7) (.n (.n .e (some i39) .e) (some i23) .e)) (some i3) (.n (.n (.n .e (some i35) .e) (some i19) (.n (.n .e (some i83) .e) none (.n (.n (.n .e (some i307) .e) none .e) none .e))) (some i11) (.n .e (some i27) (.n (.n .e (some i91) .e) none .e)))) none (.n (.n (.n (.n .e (some i33) .e) (some i17) (.n (.n .e (some i81) .e) none .e)) (some i9) (.n (.n .e (some i41) .e) (some i25) (.n (.n (.n (.n .e (some i281) .e) none .e) none .e) none .e))) none (.n (.n (.n .e (some i37) .e) (some i21) (.n .e none (.n (.n (.n .e (some i309) .e) none .e) none .e))) (some i13) (.n .e (some i29) (.n (.n .e (some i93) .e) none .e))))) none (.n (.n (.n (.n (.n .e (some i32) (.n .e (some i96) .e)) (some i16) (.n (.n .e (some i80) .e) none .e)) (some i8) (.n (.n .e (some i40) .e) (some i24) .e)) (some i4) (.n (.n (.n .e (some i36) .e) (some i20) (.n .e none (.n (.n (.n .e (some i308) .e) none .e) none .e))) (some i12) (.n .e (some i28) .e))) none (.n (.n (.n (.n .e (some i34) (.n .e (some i98) .e)) (some i18) (.n (.n .e (some i82) .e) none (.n (.n (.n .e (some i306) .e) none .e) none .e))) (some i10) (.n (.n .e (some i42) .e) (some i26) (.n (.n (.n (.n .e (some i282) .e) none .e) (some i90) .e) none .e))) (some i6) (.n (.n (.n .e (some i38) .e) (some i22) .e) none (.n .e (some i30) .e)))))
theorem fns_all : ∀ p ∈ fns, ∃ fn, Tryz.prog.funcs[p.1]? = some fn ∧ compF Tryz.prog gl fn = some p.2.plain :=
  all_cons ⟨_, Tryz.func3, c3⟩ <|
  all_cons ⟨_, Tryz.func4, c4⟩ <|
  all_cons ⟨_, Tryz.func6, c6⟩ <|
  all_cons ⟨_, Tryz.func7, c7⟩ <|
  all_cons ⟨_, Tryz.func8, c8⟩ <|
  all_cons ⟨_, Tryz.func9, c9⟩ <|
  all_cons ⟨_, Tryz.func10, c10⟩ <|
  all_cons ⟨_, Tryz.func11, c11⟩ <|
  all_cons ⟨_, Tryz.func12, c12⟩ <|
  all_cons ⟨_, Tryz.func13, c13⟩ <|
  all_cons ⟨_, Tryz.func15, c15⟩ <|
  all_cons ⟨_, Tryz.func16, c16⟩ <|
  all_cons ⟨_, Tryz.func17, c17⟩ <|
  all_cons ⟨_, Tryz.func18, c18⟩ <|
  all_cons ⟨_, Tryz.func19, c19⟩ <|
  all_cons ⟨_, Tryz.func20, c20⟩ <|
  all_cons ⟨_, Tryz.func21, c21⟩ <|
  all_cons ⟨_, Tryz.func22, c22⟩ <|
  all_cons ⟨_, Tryz.func23, c23⟩ <|
  all_cons ⟨_, Tryz.func24, c24⟩ <|
  all_cons ⟨_, Tryz.func25, c25⟩ <|
  all_cons ⟨_, Tryz.func26, c26⟩ <|
  all_cons ⟨_, Tryz.func27, c27⟩ <|
  all_cons ⟨_, Tryz.func28, c28⟩ <|
  all_cons ⟨_, Tryz.func29, c29⟩ <|
  all_cons ⟨_, Tryz.func30, c30⟩ <|
  all_cons ⟨_, Tryz.func31, c31⟩ <|
  all_cons ⟨_, Tryz.func32, c32⟩ <|
  all_cons ⟨_, Tryz.func33, c33⟩ <|
  all_cons ⟨_, Tryz.func34, c34⟩ <|
  all_cons ⟨_, Tryz.func35, c35⟩ <|
  all_cons ⟨_, Tryz.func36, c36⟩ <|
  all_cons ⟨_, Tryz.func37, c37⟩ <|
  all_cons ⟨_, Tryz.func38, c38⟩ <|
  all_cons ⟨_, Tryz.func39, c39⟩ <|
  all_cons ⟨_, Tryz.func40, c40⟩ <|
  all_cons ⟨_, Tryz.func41, c41⟩ <|
  all_cons ⟨_, Tryz.func42, c42⟩ <|
  all_cons ⟨_, Tryz.func80, c80⟩ <|
  all_cons ⟨_, Tryz.func81, c81⟩ <|
  all_cons ⟨_, Tryz.func82, c82⟩ <|
  all_cons ⟨_, Tryz.func83, c83⟩ <|
  all_cons ⟨_, Tryz.func90, c90⟩ <|
  all_cons ⟨_, Tryz.func91, c91⟩ <|
  all_cons ⟨_, Tryz.func93, c93⟩ <|
  all_cons ⟨_, Tryz.func95, c95⟩ <|
  all_cons ⟨_, Tryz.func96, c96⟩ <|
  all_cons ⟨_, Tryz.func98, c98⟩ <|
  all_cons ⟨_, Tryz.func281, c281⟩ <|
  all_cons ⟨_, Tryz.func282, c282⟩ <|
  all_cons ⟨_, Tryz.func306, c306⟩ <|
  all_cons ⟨_, Tryz.func307, c307⟩ <|
  all_cons ⟨_, Tryz.func308, c308⟩ <|
  all_cons ⟨_, Tryz.func309, c309⟩ <|
  all_nil
theorem meths_all : ∀ p ∈ meths, ∀ v w, (method (Tryz.prog.types.size + Made.depth) p.1.1 v p.1.2).run Tryz.prog w = .ok (p.2, v) w :=
  all_cons (fun v w => by kernel_rfl) <|
  all_cons (fun v w => by kernel_rfl) <|
  all_cons (fun v w => by kernel_rfl) <|
  all_cons (fun v w => by kernel_rfl) <|
  all_nil
theorem tbl_eq : treeOf fns = tbl := by kernel_rfl
end Go.Proofs.YtkdjfcimbbihdaaGreatDoor.Run
