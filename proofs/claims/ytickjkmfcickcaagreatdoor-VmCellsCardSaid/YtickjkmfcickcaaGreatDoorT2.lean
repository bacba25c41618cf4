/- PART of the proof of VmCells: The functions that the run comes to: by program. No condition. -/
import Derived.Test.YtickjkmfcickcaaGreatDoorT1
import Derived.Test.YtickjkmfcickcaaGreatDoorT11
/-! The functions that the run comes to: by program. -/
namespace Go.Proofs.YtickjkmfcickcaaGreatDoor.Run
open Go Go.Abs
set_option maxRecDepth 100000
def gl : List Nat := [1, 0]
theorem c3 : compF Tryz.prog gl Tryz.f3 = some i3.plain := by kernel_rfl
theorem c6 : compF Tryz.prog gl Tryz.f6 = some i6.plain := by kernel_rfl
theorem c7 : compF Tryz.prog gl Tryz.f7 = some i7.plain := by kernel_rfl
theorem c8 : compF Tryz.prog gl Tryz.f8 = some i8.plain := by kernel_rfl
theorem c9 : compF Tryz.prog gl Tryz.f9 = some i9.plain := by kernel_rfl
theorem c10 : compF Tryz.prog gl Tryz.f10 = some i10.plain := by kernel_rfl
theorem c11 : compF Tryz.prog gl Tryz.f11 = some i11.plain := by kernel_rfl
theorem c13 : compF Tryz.prog gl Tryz.f13 = some i13.plain := by kernel_rfl
theorem c14 : compF Tryz.prog gl Tryz.f14 = some i14.plain := by kernel_rfl
theorem c15 : compF Tryz.prog gl Tryz.f15 = some i15.plain := by kernel_rfl
theorem c16 : compF Tryz.prog gl Tryz.f16 = some i16.plain := by kernel_rfl
theorem c17 : compF Tryz.prog gl Tryz.f17 = some i17.plain := by kernel_rfl
theorem c18 : compF Tryz.prog gl Tryz.f18 = some i18.plain := by kernel_rfl
theorem c19 : compF Tryz.prog gl Tryz.f19 = some i19.plain := by kernel_rfl
theorem c20 : compF Tryz.prog gl Tryz.f20 = some i20.plain := by kernel_rfl
theorem c21 : compF Tryz.prog gl Tryz.f21 = some i21.plain := by kernel_rfl
theorem c22 : compF Tryz.prog gl Tryz.f22 = some i22.plain := by kernel_rfl
theorem c23 : compF Tryz.prog gl Tryz.f23 = some i23.plain := by kernel_rfl
theorem c24 : compF Tryz.prog gl Tryz.f24 = some i24.plain := by kernel_rfl
theorem c25 : compF Tryz.prog gl Tryz.f25 = some i25.plain := by kernel_rfl
theorem c26 : compF Tryz.prog gl Tryz.f26 = some i26.plain := by kernel_rfl
theorem c27 : compF Tryz.prog gl Tryz.f27 = some i27.plain := by kernel_rfl
theorem c28 : compF Tryz.prog gl Tryz.f28 = some i28.plain := by kernel_rfl
theorem c29 : compF Tryz.prog gl Tryz.f29 = some i29.plain := by kernel_rfl
theorem c30 : compF Tryz.prog gl Tryz.f30 = some i30.plain := by kernel_rfl
theorem c31 : compF Tryz.prog gl Tryz.f31 = some i31.plain := by kernel_rfl
theorem c32 : compF Tryz.prog gl Tryz.f32 = some i32.plain := by kernel_rfl
theorem c33 : compF Tryz.prog gl Tryz.f33 = some i33.plain := by kernel_rfl
theorem c34 : compF Tryz.prog gl Tryz.f34 = some i34.plain := by kernel_rfl
theorem c35 : compF Tryz.prog gl Tryz.f35 = some i35.plain := by kernel_rfl
theorem c36 : compF Tryz.prog gl Tryz.f36 = some i36.plain := by kernel_rfl
theorem c75 : compF Tryz.prog gl Tryz.f75 = some i75.plain := by kernel_rfl
theorem c76 : compF Tryz.prog gl Tryz.f76 = some i76.plain := by kernel_rfl
theorem c77 : compF Tryz.prog gl Tryz.f77 = some i77.plain := by kernel_rfl
theorem c78 : compF Tryz.prog gl Tryz.f78 = some i78.plain := by kernel_rfl
theorem c85 : compF Tryz.prog gl Tryz.f85 = some i85.plain := by kernel_rfl
theorem c86 : compF Tryz.prog gl Tryz.f86 = some i86.plain := by kernel_rfl
theorem c87 : compF Tryz.prog gl Tryz.f87 = some i87.plain := by kernel_rfl
theorem c88 : compF Tryz.prog gl Tryz.f88 = some i88.plain := by kernel_rfl
theorem c89 : compF Tryz.prog gl Tryz.f89 = some i89.plain := by kernel_rfl
theorem c90 : compF Tryz.prog gl Tryz.f90 = some i90.plain := by kernel_rfl
theorem c91 : compF Tryz.prog gl Tryz.f91 = some i91.plain := by kernel_rfl
theorem c92 : compF Tryz.prog gl Tryz.f92 = some i92.plain := by kernel_rfl
theorem c93 : compF Tryz.prog gl Tryz.f93 = some i93.plain := by kernel_rfl
theorem c94 : compF Tryz.prog gl Tryz.f94 = some i94.plain := by kernel_rfl
theorem c95 : compF Tryz.prog gl Tryz.f95 = some i95.plain := by kernel_rfl
theorem c96 : compF Tryz.prog gl Tryz.f96 = some i96.plain := by kernel_rfl
theorem c97 : compF Tryz.prog gl Tryz.f97 = some i97.plain := by kernel_rfl
theorem c98 : compF Tryz.prog gl Tryz.f98 = some i98.plain := by kernel_rfl
theorem c99 : compF Tryz.prog gl Tryz.f99 = some i99.plain := by kernel_rfl
theorem c100 : compF Tryz.prog gl Tryz.f100 = some i100.plain := by kernel_rfl
theorem c102 : compF Tryz.prog gl Tryz.f102 = some i102.plain := by kernel_rfl
theorem c110 : compF Tryz.prog gl Tryz.f110 = some i110.plain := by kernel_rfl
theorem c141 : compF Tryz.prog gl Tryz.f141 = some i141.plain := by kernel_rfl
theorem c142 : compF Tryz.prog gl Tryz.f142 = some i142.plain := by kernel_rfl
theorem c143 : compF Tryz.prog gl Tryz.f143 = some i143.plain := by kernel_rfl
theorem c144 : compF Tryz.prog gl Tryz.f144 = some i144.plain := by kernel_rfl
theorem c145 : compF Tryz.prog gl Tryz.f145 = some i145.plain := by kernel_rfl
theorem c146 : compF Tryz.prog gl Tryz.f146 = some i146.plain := by kernel_rfl
theorem c147 : compF Tryz.prog gl Tryz.f147 = some i147.plain := by kernel_rfl
theorem c148 : compF Tryz.prog gl Tryz.f148 = some i148.plain := by kernel_rfl
theorem c149 : compF Tryz.prog gl Tryz.f149 = some i149.plain := by kernel_rfl
theorem c150 : compF Tryz.prog gl Tryz.f150 = some i150.plain := by kernel_rfl
theorem c152 : compF Tryz.prog gl Tryz.f152 = some i152.plain := by kernel_rfl
theorem c153 : compF Tryz.prog gl Tryz.f153 = some i153.plain := by kernel_rfl
theorem c154 : compF Tryz.prog gl Tryz.f154 = some i154.plain := by kernel_rfl
theorem c155 : compF Tryz.prog gl Tryz.f155 = some i155.plain := by kernel_rfl
theorem c156 : compF Tryz.prog gl Tryz.f156 = some i156.plain := by kernel_rfl
theorem c157 : compF Tryz.prog gl Tryz.f157 = some i157.plain := by kernel_rfl
theorem c158 : compF Tryz.prog gl Tryz.f158 = some i158.plain := by kernel_rfl
theorem c159 : compF Tryz.prog gl Tryz.f159 = some i159.plain := by kernel_rfl
theorem c160 : compF Tryz.prog gl Tryz.f160 = some i160.plain := by kernel_rfl
theorem c161 : compF Tryz.prog gl Tryz.f161 = some i161.plain := by kernel_rfl
theorem c162 : compF Tryz.prog gl Tryz.f162 = some i162.plain := by kernel_rfl
theorem c163 : compF Tryz.prog gl Tryz.f163 = some i163.plain := by kernel_rfl
theorem c164 : compF Tryz.prog gl Tryz.f164 = some i164.plain := by kernel_rfl
theorem c165 : compF Tryz.prog gl Tryz.f165 = some i165.plain := by kernel_rfl
theorem c166 : compF Tryz.prog gl Tryz.f166 = some i166.plain := by kernel_rfl
theorem c167 : compF Tryz.prog gl Tryz.f167 = some i167.plain := by kernel_rfl
theorem c168 : compF Tryz.prog gl Tryz.f168 = some i168.plain := by kernel_rfl
theorem c178 : compF Tryz.prog gl Tryz.f178 = some i178.plain := by kernel_rfl
theorem c179 : compF Tryz.prog gl Tryz.f179 = some i179.plain := by kernel_rfl
theorem c213 : compF Tryz.prog gl Tryz.f213 = some i213.plain := by kernel_rfl
theorem c215 : compF Tryz.prog gl Tryz.f215 = some i215.plain := by kernel_rfl
theorem c216 : compF Tryz.prog gl Tryz.f216 = some i216.plain := by kernel_rfl
theorem c217 : compF Tryz.prog gl Tryz.f217 = some i217.plain := by kernel_rfl
theorem c218 : compF Tryz.prog gl Tryz.f218 = some i218.plain := by kernel_rfl
theorem c220 : compF Tryz.prog gl Tryz.f220 = some i220.plain := by kernel_rfl
theorem c221 : compF Tryz.prog gl Tryz.f221 = some i221.plain := by kernel_rfl
theorem c222 : compF Tryz.prog gl Tryz.f222 = some i222.plain := by kernel_rfl
theorem c223 : compF Tryz.prog gl Tryz.f223 = some i223.plain := by kernel_rfl
theorem c224 : compF Tryz.prog gl Tryz.f224 = some i224.plain := by kernel_rfl
theorem c225 : compF Tryz.prog gl Tryz.f225 = some i225.plain := by kernel_rfl
theorem c226 : compF Tryz.prog gl Tryz.f226 = some i226.plain := by kernel_rfl
theorem c227 : compF Tryz.prog gl Tryz.f227 = some i227.plain := by kernel_rfl
theorem c230 : compF Tryz.prog gl Tryz.f230 = some i230.plain := by kernel_rfl
theorem c231 : compF Tryz.prog gl Tryz.f231 = some i231.plain := by kernel_rfl
theorem c233 : compF Tryz.prog gl Tryz.f233 = some i233.plain := by kernel_rfl
theorem c234 : compF Tryz.prog gl Tryz.f234 = some i234.plain := by kernel_rfl
theorem c235 : compF Tryz.prog gl Tryz.f235 = some i235.plain := by kernel_rfl
theorem c236 : compF Tryz.prog gl Tryz.f236 = some i236.plain := by kernel_rfl
theorem c237 : compF Tryz.prog gl Tryz.f237 = some i237.plain := by kernel_rfl
theorem c238 : compF Tryz.prog gl Tryz.f238 = some i238.plain := by kernel_rfl
theorem c239 : compF Tryz.prog gl Tryz.f239 = some i239.plain := by kernel_rfl
theorem c240 : compF Tryz.prog gl Tryz.f240 = some i240.plain := by kernel_rfl
theorem c247 : compF Tryz.prog gl Tryz.f247 = some i247.plain := by kernel_rfl
theorem c295 : compF Tryz.prog gl Tryz.f295 = some i295.plain := by kernel_rfl
theorem c296 : compF Tryz.prog gl Tryz.f296 = some i296.plain := by kernel_rfl
theorem c297 : compF Tryz.prog gl Tryz.f297 = some i297.plain := by kernel_rfl
theorem c299 : compF Tryz.prog gl Tryz.f299 = some i299.plain := by kernel_rfl
theorem c329 : compF Tryz.prog gl Tryz.f329 = some i329.plain := by kernel_rfl
theorem c378 : compF Tryz.prog gl Tryz.f378 = some i378.plain := by kernel_rfl
theorem c379 : compF Tryz.prog gl Tryz.f379 = some i379.plain := by kernel_rfl
theorem c380 : compF Tryz.prog gl Tryz.f380 = some i380.plain := by kernel_rfl
theorem c381 : compF Tryz.prog gl Tryz.f381 = some i381.plain := by kernel_rfl
def fns : List (Nat × FnI) := [(3, i3), (6, i6), (7, i7), (8, i8), (9, i9), (10, i10), (11, i11), (13, i13), (14, i14), (15, i15), (16, i16), (17, i17), (18, i18), (19, i19), (20, i20), (21, i21), (22, i22), (23, i23), (24, i24), (25, i25), (26, i26), (27, i27), (28, i28), (29, i29), (30, i30), (31, i31), (32, i32), (33, i33), (34, i34), (35, i35), (36, i36), (75, i75), (76, i76), (77, i77), (78, i78), (85, i85), (86, i86), (87, i87), (88, i88), (89, i89), (90, i90), (91, i91), (92, i92), (93, i93), (94, i94), (95, i95), (96, i96), (97, i97), (98, i98), (99, i99), (100, i100), (102, i102), (110, i110), (141, i141), (142, i142), (143, i143), (144, i144), (145, i145), (146, i146), (147, i147), (148, i148), (149, i149), (150, i150), (152, i152), (153, i153), (154, i154), (155, i155), (156, i156), (157, i157), (158, i158), (159, i159), (160, i160), (161, i161), (162, i162), (163, i163), (164, i164), (165, i165), (166, i166), (167, i167), (168, i168), (178, i178), (179, i179), (213, i213), (215, i215), (216, i216), (217, i217), (218, i218), (220, i220), (221, i221), (222, i222), (223, i223), (224, i224), (225, i225), (226, i226), (227, i227), (230, i230), (231, i231), (233, i233), (234, i234), (235, i235), (236, i236), (237, i237), (238, i238), (239, i239), (240, i240), (247, i247), (295, i295), (296, i296), (297, i297), (299, i299), (329, i329), (378, i378), (379, i379), (380, i380), (381, i381)]
def meths : List ((TypeId × String) × FuncId) := [((154, "Step"), 379), ((154, "Result"), 378), ((64, "Step"), 20)]
def tbl : T FnI := (.n (.n (.n (.n (.n (.n .e (some i31) (.n (.n .e (some i159) .e) (some i95) (.n .e (some i223) .e))) (some i15) (.n (.n (.n .e (some i143) .e) none .e) none (.n .e none (.n .e (some i239) .e)))) (some i7) (.n (.n .e none (.n (.n (.n .e (some i295) .e) (some i167) .e) none (.n .e (some i231) .e))) (some i23) (.n (.n .e (some i87) (.n .e (some i215) .e)) none (.n .e none (.n .e (some i247) .e))))) (some i3) (.n (.n (.n .e (some i35) (.n (.n .e (some i163) .e) (some i99) (.n .e (some i227) .e))) (some i19) (.n (.n (.n .e (some i147) .e) none .e) none (.n (.n .e (some i179) .e) none .e))) (some i11) (.n (.n (.n .e (some i75) .e) none (.n (.n (.n .e (some i299) .e) none .e) none (.n .e (some i235) .e))) (some i27) (.n (.n (.n .e (some i155) .e) (some i91) .e) none (.n .e none (.n (.n .e (some i379) .e) none .e)))))) none (.n (.n (.n (.n .e (some i33) (.n (.n .e (some i161) .e) (some i97) (.n .e (some i225) .e))) (some i17) (.n (.n (.n .e (some i145) .e) none .e) none .e)) (some i9) (.n (.n (.n .e none (.n (.n .e (some i329) .e) none .e)) none (.n (.n (.n .e (some i297) .e) none .e) none (.n .e (some i233) .e))) (some i25) (.n (.n (.n .e (some i153) .e) (some i89) (.n .e (some i217) .e)) none .e))) none (.n (.n (.n .e none (.n (.n .e (some i165) .e) none .e)) (some i21) (.n (.n (.n .e (some i149) .e) (some i85) (.n .e (some i213) .e)) none .e)) (some i13) (.n (.n (.n (.n .e (some i141) .e) (some i77) .e) none (.n .e none (.n .e (some i237) .e))) (some i29) (.n (.n (.n .e (some i157) .e) (some i93) (.n .e (some i221) .e)) none (.n .e none (.n (.n .e (some i381) .e) none .e))))))) none (.n (.n (.n (.n (.n .e (some i32) (.n (.n .e (some i160) .e) (some i96) (.n .e (some i224) .e))) (some i16) (.n (.n (.n .e (some i144) .e) none .e) none (.n .e none (.n .e (some i240) .e)))) (some i8) (.n (.n .e none (.n (.n (.n .e (some i296) .e) (some i168) .e) none .e)) (some i24) (.n (.n (.n .e (some i152) .e) (some i88) (.n .e (some i216) .e)) none .e))) none (.n (.n (.n .e (some i36) (.n (.n .e (some i164) .e) (some i100) .e)) (some i20) (.n (.n (.n .e (some i148) .e) none .e) none .e)) none (.n (.n (.n .e (some i76) .e) none (.n .e none (.n .e (some i236) .e))) (some i28) (.n (.n (.n .e (some i156) .e) (some i92) (.n .e (some i220) .e)) none (.n .e none (.n (.n .e (some i380) .e) none .e)))))) none (.n (.n (.n (.n .e (some i34) (.n (.n .e (some i162) .e) (some i98) (.n .e (some i226) .e))) (some i18) (.n (.n (.n .e (some i146) .e) none .e) none (.n (.n .e (some i178) .e) none .e))) (some i10) (.n (.n .e none (.n .e none (.n .e (some i234) .e))) (some i26) (.n (.n (.n .e (some i154) .e) (some i90) (.n .e (some i218) .e)) none (.n .e none (.n (.n .e (some i378) .e) none .e))))) (some i6) (.n (.n (.n .e none (.n (.n .e (some i166) .e) (some i102) (.n .e (some i230) .e))) (some i22) (.n (.n (.n .e (some i150) .e) (some i86) .e) none .e)) (some i14) (.n (.n (.n (.n .e (some i142) .e) (some i78) .e) none (.n .e (some i110) (.n .e (some i238) .e))) (some i30) (.n (.n (.n .e (some i158) .e) (some i94) (.n .e (some i222) .e)) none .e))))))
theorem fns_all : ∀ p ∈ fns, ∃ fn, Tryz.prog.funcs[p.1]? = some fn ∧ compF Tryz.prog gl fn = some p.2.plain :=
  all_cons ⟨_, Tryz.func3, c3⟩ <|
  all_cons ⟨_, Tryz.func6, c6⟩ <|
  all_cons ⟨_, Tryz.func7, c7⟩ <|
  all_cons ⟨_, Tryz.func8, c8⟩ <|
  all_cons ⟨_, Tryz.func9, c9⟩ <|
  all_cons ⟨_, Tryz.func10, c10⟩ <|
  all_cons ⟨_, Tryz.func11, c11⟩ <|
  all_cons ⟨_, Tryz.func13, c13⟩ <|
  all_cons ⟨_, Tryz.func14, c14⟩ <|
  all_cons ⟨_, Tryz.func15, c15⟩ <|
  all_cons ⟨_, Tryz.func16, c16⟩ <|
  all_cons ⟨_, Tryz.func17, c17⟩ <|
  all_cons ⟨_, Tryz.func18, c18⟩ <|
  all_cons ⟨_, Tryz.func19, c19⟩ <|
  all_cons ⟨_, Tryz.func20, c20⟩ <|
  all_cons ⟨_, Tryz.func21, c21⟩ <|
  all_cons ⟨_, Tryz.func22, c22⟩ <|
  all_cons ⟨_, Tryz.func23, c23⟩ <|
  all_cons ⟨_, Tryz.func24, c24⟩ <|
  all_cons ⟨_, Tryz.func25, c25⟩ <|
  all_cons ⟨_, Tryz.func26, c26⟩ <|
  all_cons ⟨_, Tryz.func27, c27⟩ <|
  all_cons ⟨_, Tryz.func28, c28⟩ <|
  all_cons ⟨_, Tryz.func29, c29⟩ <|
  all_cons ⟨_, Tryz.func30, c30⟩ <|
  all_cons ⟨_, Tryz.func31, c31⟩ <|
  all_cons ⟨_, Tryz.func32, c32⟩ <|
  all_cons ⟨_, Tryz.func33, c33⟩ <|
  all_cons ⟨_, Tryz.func34, c34⟩ <|
  all_cons ⟨_, Tryz.func35, c35⟩ <|
  all_cons ⟨_, Tryz.func36, c36⟩ <|
  all_cons ⟨_, Tryz.func75, c75⟩ <|
  all_cons ⟨_, Tryz.func76, c76⟩ <|
  all_cons ⟨_, Tryz.func77, c77⟩ <|
  all_cons ⟨_, Tryz.func78, c78⟩ <|
  all_cons ⟨_, Tryz.func85, c85⟩ <|
  all_cons ⟨_, Tryz.func86, c86⟩ <|
  all_cons ⟨_, Tryz.func87, c87⟩ <|
  all_cons ⟨_, Tryz.func88, c88⟩ <|
  all_cons ⟨_, Tryz.func89, c89⟩ <|
  all_cons ⟨_, Tryz.func90, c90⟩ <|
  all_cons ⟨_, Tryz.func91, c91⟩ <|
  all_cons ⟨_, Tryz.func92, c92⟩ <|
  all_cons ⟨_, Tryz.func93, c93⟩ <|
  all_cons ⟨_, Tryz.func94, c94⟩ <|
  all_cons ⟨_, Tryz.func95, c95⟩ <|
  all_cons ⟨_, Tryz.func96, c96⟩ <|
  all_cons ⟨_, Tryz.func97, c97⟩ <|
  all_cons ⟨_, Tryz.func98, c98⟩ <|
  all_cons ⟨_, Tryz.func99, c99⟩ <|
  all_cons ⟨_, Tryz.func100, c100⟩ <|
  all_cons ⟨_, Tryz.func102, c102⟩ <|
  all_cons ⟨_, Tryz.func110, c110⟩ <|
  all_cons ⟨_, Tryz.func141, c141⟩ <|
  all_cons ⟨_, Tryz.func142, c142⟩ <|
  all_cons ⟨_, Tryz.func143, c143⟩ <|
  all_cons ⟨_, Tryz.func144, c144⟩ <|
  all_cons ⟨_, Tryz.func145, c145⟩ <|
  all_cons ⟨_, Tryz.func146, c146⟩ <|
  all_cons ⟨_, Tryz.func147, c147⟩ <|
  all_cons ⟨_, Tryz.func148, c148⟩ <|
  all_cons ⟨_, Tryz.func149, c149⟩ <|
  all_cons ⟨_, Tryz.func150, c150⟩ <|
  all_cons ⟨_, Tryz.func152, c152⟩ <|
  all_cons ⟨_, Tryz.func153, c153⟩ <|
  all_cons ⟨_, Tryz.func154, c154⟩ <|
  all_cons ⟨_, Tryz.func155, c155⟩ <|
  all_cons ⟨_, Tryz.func156, c156⟩ <|
  all_cons ⟨_, Tryz.func157, c157⟩ <|
  all_cons ⟨_, Tryz.func158, c158⟩ <|
  all_cons ⟨_, Tryz.func159, c159⟩ <|
  all_cons ⟨_, Tryz.func160, c160⟩ <|
  all_cons ⟨_, Tryz.func161, c161⟩ <|
  all_cons ⟨_, Tryz.func162, c162⟩ <|
  all_cons ⟨_, Tryz.func163, c163⟩ <|
  all_cons ⟨_, Tryz.func164, c164⟩ <|
  all_cons ⟨_, Tryz.func165, c165⟩ <|
  all_cons ⟨_, Tryz.func166, c166⟩ <|
  all_cons ⟨_, Tryz.func167, c167⟩ <|
  all_cons ⟨_, Tryz.func168, c168⟩ <|
  all_cons ⟨_, Tryz.func178, c178⟩ <|
  all_cons ⟨_, Tryz.func179, c179⟩ <|
  all_cons ⟨_, Tryz.func213, c213⟩ <|
  all_cons ⟨_, Tryz.func215, c215⟩ <|
  all_cons ⟨_, Tryz.func216, c216⟩ <|
  all_cons ⟨_, Tryz.func217, c217⟩ <|
  all_cons ⟨_, Tryz.func218, c218⟩ <|
  all_cons ⟨_, Tryz.func220, c220⟩ <|
  all_cons ⟨_, Tryz.func221, c221⟩ <|
  all_cons ⟨_, Tryz.func222, c222⟩ <|
  all_cons ⟨_, Tryz.func223, c223⟩ <|
  all_cons ⟨_, Tryz.func224, c224⟩ <|
  all_cons ⟨_, Tryz.func225, c225⟩ <|
  all_cons ⟨_, Tryz.func226, c226⟩ <|
  all_cons ⟨_, Tryz.func227, c227⟩ <|
  all_cons ⟨_, Tryz.func230, c230⟩ <|
  all_cons ⟨_, Tryz.func231, c231⟩ <|
  all_cons ⟨_, Tryz.func233, c233⟩ <|
  all_cons ⟨_, Tryz.func234, c234⟩ <|
  all_cons ⟨_, Tryz.func235, c235⟩ <|
  all_cons ⟨_, Tryz.func236, c236⟩ <|
  all_cons ⟨_, Tryz.func237, c237⟩ <|
  all_cons ⟨_, Tryz.func238, c238⟩ <|
  all_cons ⟨_, Tryz.func239, c239⟩ <|
  all_cons ⟨_, Tryz.func240, c240⟩ <|
  all_cons ⟨_, Tryz.func247, c247⟩ <|
  all_cons ⟨_, Tryz.func295, c295⟩ <|
  all_cons ⟨_, Tryz.func296, c296⟩ <|
  all_cons ⟨_, Tryz.func297, c297⟩ <|
  all_cons ⟨_, Tryz.func299, c299⟩ <|
  all_cons ⟨_, Tryz.func329, c329⟩ <|
  all_cons ⟨_, Tryz.func378, c378⟩ <|
  all_cons ⟨_, Tryz.func379, c379⟩ <|
  all_cons ⟨_, Tryz.func380, c380⟩ <|
  all_cons ⟨_, Tryz.func381, c381⟩ <|
  all_nil
theorem meths_all : ∀ p ∈ meths, ∀ v w, (method (Tryz.prog.types.size + Made.depth) p.1.1 v p.1.2).run Tryz.prog w = .ok (p.2, v) w :=
  all_cons (fun v w => by kernel_rfl) <|
  all_cons (fun v w => by kernel_rfl) <|
  all_cons (fun v w => by kernel_rfl) <|
  all_nil
theorem tbl_eq : treeOf fns = tbl := by kernel_rfl
end Go.Proofs.YtickjkmfcickcaaGreatDoor.Run
