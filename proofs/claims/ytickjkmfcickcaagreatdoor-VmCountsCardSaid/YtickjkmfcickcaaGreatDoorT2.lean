/- PART of the proof of VmKnown: The functions that the run comes to: by program. No condition. -/
import Derived.Test.YtickjkmfcickcaaGreatDoorT1
import Derived.Test.YtickjkmfcickcaaGreatDoorT11
/-! The functions that the run comes to: by program. -/
namespace Go.Proofs.YtickjkmfcickcaaGreatDoor.Run
open Go Go.Abs
set_option maxRecDepth 100000
def gl : List Nat := [1, 0]
theorem c4 : compF Tryz.prog gl Tryz.f4 = some i4.plain := by kernel_rfl
theorem c5 : compF Tryz.prog gl Tryz.f5 = some i5.plain := by kernel_rfl
theorem c6 : compF Tryz.prog gl Tryz.f6 = some i6.plain := by kernel_rfl
theorem c8 : compF Tryz.prog gl Tryz.f8 = some i8.plain := by kernel_rfl
theorem c10 : compF Tryz.prog gl Tryz.f10 = some i10.plain := by kernel_rfl
theorem c11 : compF Tryz.prog gl Tryz.f11 = some i11.plain := by kernel_rfl
theorem c12 : compF Tryz.prog gl Tryz.f12 = some i12.plain := by kernel_rfl
theorem c13 : compF Tryz.prog gl Tryz.f13 = some i13.plain := by kernel_rfl
theorem c14 : compF Tryz.prog gl Tryz.f14 = some i14.plain := by kernel_rfl
theorem c15 : compF Tryz.prog gl Tryz.f15 = some i15.plain := by kernel_rfl
theorem c16 : compF Tryz.prog gl Tryz.f16 = some i16.plain := by kernel_rfl
theorem c19 : compF Tryz.prog gl Tryz.f19 = some i19.plain := by kernel_rfl
theorem c20 : compF Tryz.prog gl Tryz.f20 = some i20.plain := by kernel_rfl
theorem c21 : compF Tryz.prog gl Tryz.f21 = some i21.plain := by kernel_rfl
theorem c23 : compF Tryz.prog gl Tryz.f23 = some i23.plain := by kernel_rfl
theorem c24 : compF Tryz.prog gl Tryz.f24 = some i24.plain := by kernel_rfl
theorem c25 : compF Tryz.prog gl Tryz.f25 = some i25.plain := by kernel_rfl
theorem c26 : compF Tryz.prog gl Tryz.f26 = some i26.plain := by kernel_rfl
theorem c28 : compF Tryz.prog gl Tryz.f28 = some i28.plain := by kernel_rfl
theorem c29 : compF Tryz.prog gl Tryz.f29 = some i29.plain := by kernel_rfl
theorem c30 : compF Tryz.prog gl Tryz.f30 = some i30.plain := by kernel_rfl
theorem c32 : compF Tryz.prog gl Tryz.f32 = some i32.plain := by kernel_rfl
theorem c33 : compF Tryz.prog gl Tryz.f33 = some i33.plain := by kernel_rfl
theorem c36 : compF Tryz.prog gl Tryz.f36 = some i36.plain := by kernel_rfl
theorem c75 : compF Tryz.prog gl Tryz.f75 = some i75.plain := by kernel_rfl
theorem c85 : compF Tryz.prog gl Tryz.f85 = some i85.plain := by kernel_rfl
theorem c88 : compF Tryz.prog gl Tryz.f88 = some i88.plain := by kernel_rfl
theorem c89 : compF Tryz.prog gl Tryz.f89 = some i89.plain := by kernel_rfl
theorem c90 : compF Tryz.prog gl Tryz.f90 = some i90.plain := by kernel_rfl
theorem c91 : compF Tryz.prog gl Tryz.f91 = some i91.plain := by kernel_rfl
theorem c92 : compF Tryz.prog gl Tryz.f92 = some i92.plain := by kernel_rfl
theorem c93 : compF Tryz.prog gl Tryz.f93 = some i93.plain := by kernel_rfl
theorem c94 : compF Tryz.prog gl Tryz.f94 = some i94.plain := by kernel_rfl
theorem c95 : compF Tryz.prog gl Tryz.f95 = some i95.plain := by kernel_rfl
theorem c96 : compF Tryz.prog gl Tryz.f96 = some i96.plain := by kernel_rfl
theorem c97 : compF Tryz.prog gl Tryz.f97 = some i97.plain := by kernel_rfl
theorem c99 : compF Tryz.prog gl Tryz.f99 = some i99.plain := by kernel_rfl
theorem c100 : compF Tryz.prog gl Tryz.f100 = some i100.plain := by kernel_rfl
theorem c102 : compF Tryz.prog gl Tryz.f102 = some i102.plain := by kernel_rfl
theorem c141 : compF Tryz.prog gl Tryz.f141 = some i141.plain := by kernel_rfl
theorem c142 : compF Tryz.prog gl Tryz.f142 = some i142.plain := by kernel_rfl
theorem c143 : compF Tryz.prog gl Tryz.f143 = some i143.plain := by kernel_rfl
theorem c144 : compF Tryz.prog gl Tryz.f144 = some i144.plain := by kernel_rfl
theorem c145 : compF Tryz.prog gl Tryz.f145 = some i145.plain := by kernel_rfl
theorem c146 : compF Tryz.prog gl Tryz.f146 = some i146.plain := by kernel_rfl
theorem c147 : compF Tryz.prog gl Tryz.f147 = some i147.plain := by kernel_rfl
theorem c148 : compF Tryz.prog gl Tryz.f148 = some i148.plain := by kernel_rfl
theorem c152 : compF Tryz.prog gl Tryz.f152 = some i152.plain := by kernel_rfl
theorem c153 : compF Tryz.prog gl Tryz.f153 = some i153.plain := by kernel_rfl
theorem c154 : compF Tryz.prog gl Tryz.f154 = some i154.plain := by kernel_rfl
theorem c156 : compF Tryz.prog gl Tryz.f156 = some i156.plain := by kernel_rfl
theorem c157 : compF Tryz.prog gl Tryz.f157 = some i157.plain := by kernel_rfl
theorem c158 : compF Tryz.prog gl Tryz.f158 = some i158.plain := by kernel_rfl
theorem c159 : compF Tryz.prog gl Tryz.f159 = some i159.plain := by kernel_rfl
theorem c160 : compF Tryz.prog gl Tryz.f160 = some i160.plain := by kernel_rfl
theorem c161 : compF Tryz.prog gl Tryz.f161 = some i161.plain := by kernel_rfl
theorem c162 : compF Tryz.prog gl Tryz.f162 = some i162.plain := by kernel_rfl
theorem c163 : compF Tryz.prog gl Tryz.f163 = some i163.plain := by kernel_rfl
theorem c164 : compF Tryz.prog gl Tryz.f164 = some i164.plain := by kernel_rfl
theorem c179 : compF Tryz.prog gl Tryz.f179 = some i179.plain := by kernel_rfl
theorem c213 : compF Tryz.prog gl Tryz.f213 = some i213.plain := by kernel_rfl
theorem c215 : compF Tryz.prog gl Tryz.f215 = some i215.plain := by kernel_rfl
theorem c216 : compF Tryz.prog gl Tryz.f216 = some i216.plain := by kernel_rfl
theorem c217 : compF Tryz.prog gl Tryz.f217 = some i217.plain := by kernel_rfl
theorem c218 : compF Tryz.prog gl Tryz.f218 = some i218.plain := by kernel_rfl
theorem c222 : compF Tryz.prog gl Tryz.f222 = some i222.plain := by kernel_rfl
theorem c226 : compF Tryz.prog gl Tryz.f226 = some i226.plain := by kernel_rfl
theorem c227 : compF Tryz.prog gl Tryz.f227 = some i227.plain := by kernel_rfl
theorem c230 : compF Tryz.prog gl Tryz.f230 = some i230.plain := by kernel_rfl
theorem c231 : compF Tryz.prog gl Tryz.f231 = some i231.plain := by kernel_rfl
theorem c233 : compF Tryz.prog gl Tryz.f233 = some i233.plain := by kernel_rfl
theorem c234 : compF Tryz.prog gl Tryz.f234 = some i234.plain := by kernel_rfl
theorem c236 : compF Tryz.prog gl Tryz.f236 = some i236.plain := by kernel_rfl
theorem c237 : compF Tryz.prog gl Tryz.f237 = some i237.plain := by kernel_rfl
theorem c238 : compF Tryz.prog gl Tryz.f238 = some i238.plain := by kernel_rfl
theorem c247 : compF Tryz.prog gl Tryz.f247 = some i247.plain := by kernel_rfl
theorem c295 : compF Tryz.prog gl Tryz.f295 = some i295.plain := by kernel_rfl
theorem c299 : compF Tryz.prog gl Tryz.f299 = some i299.plain := by kernel_rfl
def fns : List (Nat × FnI) := [(4, i4), (5, i5), (6, i6), (8, i8), (10, i10), (11, i11), (12, i12), (13, i13), (14, i14), (15, i15), (16, i16), (19, i19), (20, i20), (21, i21), (23, i23), (24, i24), (25, i25), (26, i26), (28, i28), (29, i29), (30, i30), (32, i32), (33, i33), (36, i36), (75, i75), (85, i85), (88, i88), (89, i89), (90, i90), (91, i91), (92, i92), (93, i93), (94, i94), (95, i95), (96, i96), (97, i97), (99, i99), (100, i100), (102, i102), (141, i141), (142, i142), (143, i143), (144, i144), (145, i145), (146, i146), (147, i147), (148, i148), (152, i152), (153, i153), (154, i154), (156, i156), (157, i157), (158, i158), (159, i159), (160, i160), (161, i161), (162, i162), (163, i163), (164, i164), (179, i179), (213, i213), (215, i215), (216, i216), (217, i217), (218, i218), (222, i222), (226, i226), (227, i227), (230, i230), (231, i231), (233, i233), (234, i234), (236, i236), (237, i237), (238, i238), (247, i247), (295, i295), (299, i299)]
def meths : List ((TypeId × String) × FuncId) := [((64, "Step"), 20)]
def tbl : T FnI := (.n (.n (.n (.n (.n (.n .e none (.n (.n .e (some i159) .e) (some i95) .e)) (some i15) (.n (.n (.n .e (some i143) .e) none .e) none .e)) none (.n (.n .e none (.n (.n (.n .e (some i295) .e) none .e) none (.n .e (some i231) .e))) (some i23) (.n (.n .e none (.n .e (some i215) .e)) none (.n .e none (.n .e (some i247) .e))))) none (.n (.n (.n .e none (.n (.n .e (some i163) .e) (some i99) (.n .e (some i227) .e))) (some i19) (.n (.n (.n .e (some i147) .e) none .e) none (.n (.n .e (some i179) .e) none .e))) (some i11) (.n (.n (.n .e (some i75) .e) none (.n (.n (.n .e (some i299) .e) none .e) none .e)) none (.n (.n .e (some i91) .e) none .e)))) none (.n (.n (.n (.n .e (some i33) (.n (.n .e (some i161) .e) (some i97) .e)) none (.n (.n (.n .e (some i145) .e) none .e) none .e)) none (.n (.n .e none (.n .e none (.n .e (some i233) .e))) (some i25) (.n (.n (.n .e (some i153) .e) (some i89) (.n .e (some i217) .e)) none .e))) (some i5) (.n (.n .e (some i21) (.n (.n .e (some i85) (.n .e (some i213) .e)) none .e)) (some i13) (.n (.n (.n (.n .e (some i141) .e) none .e) none (.n .e none (.n .e (some i237) .e))) (some i29) (.n (.n (.n .e (some i157) .e) (some i93) .e) none .e))))) none (.n (.n (.n (.n (.n .e (some i32) (.n (.n .e (some i160) .e) (some i96) .e)) (some i16) (.n (.n (.n .e (some i144) .e) none .e) none .e)) (some i8) (.n .e (some i24) (.n (.n (.n .e (some i152) .e) (some i88) (.n .e (some i216) .e)) none .e))) (some i4) (.n (.n (.n .e (some i36) (.n (.n .e (some i164) .e) (some i100) .e)) (some i20) (.n (.n (.n .e (some i148) .e) none .e) none .e)) (some i12) (.n (.n .e none (.n .e none (.n .e (some i236) .e))) (some i28) (.n (.n (.n .e (some i156) .e) (some i92) .e) none .e)))) none (.n (.n (.n (.n .e none (.n (.n .e (some i162) .e) none (.n .e (some i226) .e))) none (.n (.n (.n .e (some i146) .e) none .e) none .e)) (some i10) (.n (.n .e none (.n .e none (.n .e (some i234) .e))) (some i26) (.n (.n (.n .e (some i154) .e) (some i90) (.n .e (some i218) .e)) none .e))) (some i6) (.n (.n (.n .e none (.n .e (some i102) (.n .e (some i230) .e))) none .e) (some i14) (.n (.n (.n (.n .e (some i142) .e) none .e) none (.n .e none (.n .e (some i238) .e))) (some i30) (.n (.n (.n .e (some i158) .e) (some i94) (.n .e (some i222) .e)) none .e))))))
theorem fns_all : ∀ p ∈ fns, ∃ fn, Tryz.prog.funcs[p.1]? = some fn ∧ compF Tryz.prog gl fn = some p.2.plain :=
  all_cons ⟨_, Tryz.func4, c4⟩ <|
  all_cons ⟨_, Tryz.func5, c5⟩ <|
  all_cons ⟨_, Tryz.func6, c6⟩ <|
  all_cons ⟨_, Tryz.func8, c8⟩ <|
  all_cons ⟨_, Tryz.func10, c10⟩ <|
  all_cons ⟨_, Tryz.func11, c11⟩ <|
  all_cons ⟨_, Tryz.func12, c12⟩ <|
  all_cons ⟨_, Tryz.func13, c13⟩ <|
  all_cons ⟨_, Tryz.func14, c14⟩ <|
  all_cons ⟨_, Tryz.func15, c15⟩ <|
  all_cons ⟨_, Tryz.func16, c16⟩ <|
  all_cons ⟨_, Tryz.func19, c19⟩ <|
  all_cons ⟨_, Tryz.func20, c20⟩ <|
  all_cons ⟨_, Tryz.func21, c21⟩ <|
  all_cons ⟨_, Tryz.func23, c23⟩ <|
  all_cons ⟨_, Tryz.func24, c24⟩ <|
  all_cons ⟨_, Tryz.func25, c25⟩ <|
  all_cons ⟨_, Tryz.func26, c26⟩ <|
  all_cons ⟨_, Tryz.func28, c28⟩ <|
  all_cons ⟨_, Tryz.func29, c29⟩ <|
  all_cons ⟨_, Tryz.func30, c30⟩ <|
  all_cons ⟨_, Tryz.func32, c32⟩ <|
  all_cons ⟨_, Tryz.func33, c33⟩ <|
  all_cons ⟨_, Tryz.func36, c36⟩ <|
  all_cons ⟨_, Tryz.func75, c75⟩ <|
  all_cons ⟨_, Tryz.func85, c85⟩ <|
  all_cons ⟨_, Tryz.func88, c88⟩ <|
  all_cons ⟨_, Tryz.func89, c89⟩ <|
  all_cons ⟨_, Tryz.func90, c90⟩ <|
  all_cons ⟨_, Tryz.func91, c91⟩ <|
  all_cons ⟨_, Tryz.func92, c92⟩ <|
  all_cons ⟨_, Tryz.func93, c93⟩ <|
  all_cons ⟨_, Tryz.func94, c94⟩ <|
  all_cons ⟨_, Tryz.func95, c95⟩ <|
  all_cons ⟨_, Tryz.func96, c96⟩ <|
  all_cons ⟨_, Tryz.func97, c97⟩ <|
  all_cons ⟨_, Tryz.func99, c99⟩ <|
  all_cons ⟨_, Tryz.func100, c100⟩ <|
  all_cons ⟨_, Tryz.func102, c102⟩ <|
  all_cons ⟨_, Tryz.func141, c141⟩ <|
  all_cons ⟨_, Tryz.func142, c142⟩ <|
  all_cons ⟨_, Tryz.func143, c143⟩ <|
  all_cons ⟨_, Tryz.func144, c144⟩ <|
  all_cons ⟨_, Tryz.func145, c145⟩ <|
  all_cons ⟨_, Tryz.func146, c146⟩ <|
  all_cons ⟨_, Tryz.func147, c147⟩ <|
  all_cons ⟨_, Tryz.func148, c148⟩ <|
  all_cons ⟨_, Tryz.func152, c152⟩ <|
  all_cons ⟨_, Tryz.func153, c153⟩ <|
  all_cons ⟨_, Tryz.func154, c154⟩ <|
  all_cons ⟨_, Tryz.func156, c156⟩ <|
  all_cons ⟨_, Tryz.func157, c157⟩ <|
  all_cons ⟨_, Tryz.func158, c158⟩ <|
  all_cons ⟨_, Tryz.func159, c159⟩ <|
  all_cons ⟨_, Tryz.func160, c160⟩ <|
  all_cons ⟨_, Tryz.func161, c161⟩ <|
  all_cons ⟨_, Tryz.func162, c162⟩ <|
  all_cons ⟨_, Tryz.func163, c163⟩ <|
  all_cons ⟨_, Tryz.func164, c164⟩ <|
  all_cons ⟨_, Tryz.func179, c179⟩ <|
  all_cons ⟨_, Tryz.func213, c213⟩ <|
  all_cons ⟨_, Tryz.func215, c215⟩ <|
  all_cons ⟨_, Tryz.func216, c216⟩ <|
  all_cons ⟨_, Tryz.func217, c217⟩ <|
  all_cons ⟨_, Tryz.func218, c218⟩ <|
  all_cons ⟨_, Tryz.func222, c222⟩ <|
  all_cons ⟨_, Tryz.func226, c226⟩ <|
  all_cons ⟨_, Tryz.func227, c227⟩ <|
  all_cons ⟨_, Tryz.func230, c230⟩ <|
  all_cons ⟨_, Tryz.func231, c231⟩ <|
  all_cons ⟨_, Tryz.func233, c233⟩ <|
  all_cons ⟨_, Tryz.func234, c234⟩ <|
  all_cons ⟨_, Tryz.func236, c236⟩ <|
  all_cons ⟨_, Tryz.func237, c237⟩ <|
  all_cons ⟨_, Tryz.func238, c238⟩ <|
  all_cons ⟨_, Tryz.func247, c247⟩ <|
  all_cons ⟨_, Tryz.func295, c295⟩ <|
  all_cons ⟨_, Tryz.func299, c299⟩ <|
  all_nil
theorem meths_all : ∀ p ∈ meths, ∀ v w, (method (Tryz.prog.types.size + Made.depth) p.1.1 v p.1.2).run Tryz.prog w = .ok (p.2, v) w :=
  all_cons (fun v w => by kernel_rfl) <|
  all_nil
theorem tbl_eq : treeOf fns = tbl := by kernel_rfl
end Go.Proofs.YtickjkmfcickcaaGreatDoor.Run
