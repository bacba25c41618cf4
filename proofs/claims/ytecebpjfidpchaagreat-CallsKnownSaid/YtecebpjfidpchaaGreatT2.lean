/- PART of the proof of CallsKnown: The functions that the run comes to: by program. No condition. -/
import Derived.Test.YtecebpjfidpchaaGreatT1
import Derived.Test.YtecebpjfidpchaaGreatT11
/-! The functions that the run comes to: by program. -/
namespace Go.Proofs.YtecebpjfidpchaaGreat.Run
open Go Go.Abs
set_option maxRecDepth 100000
def gl : List Nat := []
theorem c3 : compF Tryz.prog gl Tryz.f3 = some i3.plain := by kernel_rfl
theorem c4 : compF Tryz.prog gl Tryz.f4 = some i4.plain := by kernel_rfl
theorem c5 : compF Tryz.prog gl Tryz.f5 = some i5.plain := by kernel_rfl
theorem c6 : compF Tryz.prog gl Tryz.f6 = some i6.plain := by kernel_rfl
theorem c7 : compF Tryz.prog gl Tryz.f7 = some i7.plain := by kernel_rfl
theorem c8 : compF Tryz.prog gl Tryz.f8 = some i8.plain := by kernel_rfl
theorem c9 : compF Tryz.prog gl Tryz.f9 = some i9.plain := by kernel_rfl
theorem c10 : compF Tryz.prog gl Tryz.f10 = some i10.plain := by kernel_rfl
theorem c11 : compF Tryz.prog gl Tryz.f11 = some i11.plain := by kernel_rfl
theorem c12 : compF Tryz.prog gl Tryz.f12 = some i12.plain := by kernel_rfl
theorem c13 : compF Tryz.prog gl Tryz.f13 = some i13.plain := by kernel_rfl
theorem c14 : compF Tryz.prog gl Tryz.f14 = some i14.plain := by kernel_rfl
theorem c15 : compF Tryz.prog gl Tryz.f15 = some i15.plain := by kernel_rfl
theorem c16 : compF Tryz.prog gl Tryz.f16 = some i16.plain := by kernel_rfl
theorem c17 : compF Tryz.prog gl Tryz.f17 = some i17.plain := by kernel_rfl
theorem c18 : compF Tryz.prog gl Tryz.f18 = some i18.plain := by kernel_rfl
theorem c19 : compF Tryz.prog gl Tryz.f19 = some i19.plain := by kernel_rfl
theorem c20 : compF Tryz.prog gl Tryz.f20 = some i20.plain := by kernel_rfl
theorem c21 : compF Tryz.prog gl Tryz.f21 = some i21.plain := by kernel_rfl
theorem c22 : compF Tryz.prog gl Tryz.f22 = some i22.plain := by kernel_rfl
theorem c23 : compF Tryz.prog gl Tryz.f23 = some i23.plain := by kernel_rfl
theorem c24 : compF Tryz.prog gl Tryz.f24 = some i24.plain := by kernel_rfl
theorem c63 : compF Tryz.prog gl Tryz.f63 = some i63.plain := by kernel_rfl
theorem c64 : compF Tryz.prog gl Tryz.f64 = some i64.plain := by kernel_rfl
theorem c65 : compF Tryz.prog gl Tryz.f65 = some i65.plain := by kernel_rfl
theorem c67 : compF Tryz.prog gl Tryz.f67 = some i67.plain := by kernel_rfl
theorem c68 : compF Tryz.prog gl Tryz.f68 = some i68.plain := by kernel_rfl
theorem c69 : compF Tryz.prog gl Tryz.f69 = some i69.plain := by kernel_rfl
theorem c70 : compF Tryz.prog gl Tryz.f70 = some i70.plain := by kernel_rfl
theorem c71 : compF Tryz.prog gl Tryz.f71 = some i71.plain := by kernel_rfl
theorem c72 : compF Tryz.prog gl Tryz.f72 = some i72.plain := by kernel_rfl
theorem c73 : compF Tryz.prog gl Tryz.f73 = some i73.plain := by kernel_rfl
theorem c74 : compF Tryz.prog gl Tryz.f74 = some i74.plain := by kernel_rfl
theorem c75 : compF Tryz.prog gl Tryz.f75 = some i75.plain := by kernel_rfl
theorem c76 : compF Tryz.prog gl Tryz.f76 = some i76.plain := by kernel_rfl
theorem c77 : compF Tryz.prog gl Tryz.f77 = some i77.plain := by kernel_rfl
theorem c80 : compF Tryz.prog gl Tryz.f80 = some i80.plain := by kernel_rfl
theorem c81 : compF Tryz.prog gl Tryz.f81 = some i81.plain := by kernel_rfl
theorem c83 : compF Tryz.prog gl Tryz.f83 = some i83.plain := by kernel_rfl
theorem c93 : compF Tryz.prog gl Tryz.f93 = some i93.plain := by kernel_rfl
theorem c123 : compF Tryz.prog gl Tryz.f123 = some i123.plain := by kernel_rfl
theorem c124 : compF Tryz.prog gl Tryz.f124 = some i124.plain := by kernel_rfl
theorem c125 : compF Tryz.prog gl Tryz.f125 = some i125.plain := by kernel_rfl
theorem c126 : compF Tryz.prog gl Tryz.f126 = some i126.plain := by kernel_rfl
theorem c128 : compF Tryz.prog gl Tryz.f128 = some i128.plain := by kernel_rfl
theorem c129 : compF Tryz.prog gl Tryz.f129 = some i129.plain := by kernel_rfl
theorem c139 : compF Tryz.prog gl Tryz.f139 = some i139.plain := by kernel_rfl
theorem c142 : compF Tryz.prog gl Tryz.f142 = some i142.plain := by kernel_rfl
theorem c143 : compF Tryz.prog gl Tryz.f143 = some i143.plain := by kernel_rfl
theorem c177 : compF Tryz.prog gl Tryz.f177 = some i177.plain := by kernel_rfl
theorem c178 : compF Tryz.prog gl Tryz.f178 = some i178.plain := by kernel_rfl
theorem c179 : compF Tryz.prog gl Tryz.f179 = some i179.plain := by kernel_rfl
theorem c180 : compF Tryz.prog gl Tryz.f180 = some i180.plain := by kernel_rfl
theorem c181 : compF Tryz.prog gl Tryz.f181 = some i181.plain := by kernel_rfl
theorem c182 : compF Tryz.prog gl Tryz.f182 = some i182.plain := by kernel_rfl
theorem c183 : compF Tryz.prog gl Tryz.f183 = some i183.plain := by kernel_rfl
theorem c184 : compF Tryz.prog gl Tryz.f184 = some i184.plain := by kernel_rfl
theorem c186 : compF Tryz.prog gl Tryz.f186 = some i186.plain := by kernel_rfl
theorem c187 : compF Tryz.prog gl Tryz.f187 = some i187.plain := by kernel_rfl
theorem c206 : compF Tryz.prog gl Tryz.f206 = some i206.plain := by kernel_rfl
theorem c240 : compF Tryz.prog gl Tryz.f240 = some i240.plain := by kernel_rfl
theorem c241 : compF Tryz.prog gl Tryz.f241 = some i241.plain := by kernel_rfl
theorem c242 : compF Tryz.prog gl Tryz.f242 = some i242.plain := by kernel_rfl
theorem c244 : compF Tryz.prog gl Tryz.f244 = some i244.plain := by kernel_rfl
theorem c245 : compF Tryz.prog gl Tryz.f245 = some i245.plain := by kernel_rfl
theorem c246 : compF Tryz.prog gl Tryz.f246 = some i246.plain := by kernel_rfl
theorem c248 : compF Tryz.prog gl Tryz.f248 = some i248.plain := by kernel_rfl
theorem c249 : compF Tryz.prog gl Tryz.f249 = some i249.plain := by kernel_rfl
theorem c257 : compF Tryz.prog gl Tryz.f257 = some i257.plain := by kernel_rfl
theorem c278 : compF Tryz.prog gl Tryz.f278 = some i278.plain := by kernel_rfl
theorem c281 : compF Tryz.prog gl Tryz.f281 = some i281.plain := by kernel_rfl
theorem c282 : compF Tryz.prog gl Tryz.f282 = some i282.plain := by kernel_rfl
theorem c283 : compF Tryz.prog gl Tryz.f283 = some i283.plain := by kernel_rfl
theorem c284 : compF Tryz.prog gl Tryz.f284 = some i284.plain := by kernel_rfl
theorem c287 : compF Tryz.prog gl Tryz.f287 = some i287.plain := by kernel_rfl
theorem c294 : compF Tryz.prog gl Tryz.f294 = some i294.plain := by kernel_rfl
theorem c295 : compF Tryz.prog gl Tryz.f295 = some i295.plain := by kernel_rfl
theorem c297 : compF Tryz.prog gl Tryz.f297 = some i297.plain := by kernel_rfl
theorem c298 : compF Tryz.prog gl Tryz.f298 = some i298.plain := by kernel_rfl
theorem c299 : compF Tryz.prog gl Tryz.f299 = some i299.plain := by kernel_rfl
theorem c339 : compF Tryz.prog gl Tryz.f339 = some i339.plain := by kernel_rfl
theorem c340 : compF Tryz.prog gl Tryz.f340 = some i340.plain := by kernel_rfl
theorem c341 : compF Tryz.prog gl Tryz.f341 = some i341.plain := by kernel_rfl
theorem c342 : compF Tryz.prog gl Tryz.f342 = some i342.plain := by kernel_rfl
theorem c343 : compF Tryz.prog gl Tryz.f343 = some i343.plain := by kernel_rfl
theorem c344 : compF Tryz.prog gl Tryz.f344 = some i344.plain := by kernel_rfl
theorem c346 : compF Tryz.prog gl Tryz.f346 = some i346.plain := by kernel_rfl
theorem c347 : compF Tryz.prog gl Tryz.f347 = some i347.plain := by kernel_rfl
theorem c348 : compF Tryz.prog gl Tryz.f348 = some i348.plain := by kernel_rfl
theorem c350 : compF Tryz.prog gl Tryz.f350 = some i350.plain := by kernel_rfl
theorem c351 : compF Tryz.prog gl Tryz.f351 = some i351.plain := by kernel_rfl
theorem c353 : compF Tryz.prog gl Tryz.f353 = some i353.plain := by kernel_rfl
theorem c354 : compF Tryz.prog gl Tryz.f354 = some i354.plain := by kernel_rfl
theorem c356 : compF Tryz.prog gl Tryz.f356 = some i356.plain := by kernel_rfl
theorem c357 : compF Tryz.prog gl Tryz.f357 = some i357.plain := by kernel_rfl
theorem c358 : compF Tryz.prog gl Tryz.f358 = some i358.plain := by kernel_rfl
theorem c359 : compF Tryz.prog gl Tryz.f359 = some i359.plain := by kernel_rfl
theorem c360 : compF Tryz.prog gl Tryz.f360 = some i360.plain := by kernel_rfl
theorem c362 : compF Tryz.prog gl Tryz.f362 = some i362.plain := by kernel_rfl
theorem c364 : compF Tryz.prog gl Tryz.f364 = some i364.plain := by kernel_rfl
theorem c365 : compF Tryz.prog gl Tryz.f365 = some i365.plain := by kernel_rfl
theorem c366 : compF Tryz.prog gl Tryz.f366 = some i366.plain := by kernel_rfl
theorem c370 : compF Tryz.prog gl Tryz.f370 = some i370.plain := by kernel_rfl
theorem c371 : compF Tryz.prog gl Tryz.f371 = some i371.plain := by kernel_rfl
theorem c373 : compF Tryz.prog gl Tryz.f373 = some i373.plain := by kernel_rfl
theorem c374 : compF Tryz.prog gl Tryz.f374 = some i374.plain := by kernel_rfl
theorem c377 : compF Tryz.prog gl Tryz.f377 = some i377.plain := by kernel_rfl
theorem c378 : compF Tryz.prog gl Tryz.f378 = some i378.plain := by kernel_rfl
theorem c380 : compF Tryz.prog gl Tryz.f380 = some i380.plain := by kernel_rfl
theorem c387 : compF Tryz.prog gl Tryz.f387 = some i387.plain := by kernel_rfl
theorem c388 : compF Tryz.prog gl Tryz.f388 = some i388.plain := by kernel_rfl
theorem c393 : compF Tryz.prog gl Tryz.f393 = some i393.plain := by kernel_rfl
theorem c404 : compF Tryz.prog gl Tryz.f404 = some i404.plain := by kernel_rfl
theorem c406 : compF Tryz.prog gl Tryz.f406 = some i406.plain := by kernel_rfl
theorem c416 : compF Tryz.prog gl Tryz.f416 = some i416.plain := by kernel_rfl
theorem c418 : compF Tryz.prog gl Tryz.f418 = some i418.plain := by kernel_rfl
theorem c419 : compF Tryz.prog gl Tryz.f419 = some i419.plain := by kernel_rfl
theorem c421 : compF Tryz.prog gl Tryz.f421 = some i421.plain := by kernel_rfl
def fns : List (Nat × FnI) := [(3, i3), (4, i4), (5, i5), (6, i6), (7, i7), (8, i8), (9, i9), (10, i10), (11, i11), (12, i12), (13, i13), (14, i14), (15, i15), (16, i16), (17, i17), (18, i18), (19, i19), (20, i20), (21, i21), (22, i22), (23, i23), (24, i24), (63, i63), (64, i64), (65, i65), (67, i67), (68, i68), (69, i69), (70, i70), (71, i71), (72, i72), (73, i73), (74, i74), (75, i75), (76, i76), (77, i77), (80, i80), (81, i81), (83, i83), (93, i93), (123, i123), (124, i124), (125, i125), (126, i126), (128, i128), (129, i129), (139, i139), (142, i142), (143, i143), (177, i177), (178, i178), (179, i179), (180, i180), (181, i181), (182, i182), (183, i183), (184, i184), (186, i186), (187, i187), (206, i206), (240, i240), (241, i241), (242, i242), (244, i244), (245, i245), (246, i246), (248, i248), (249, i249), (257, i257), (278, i278), (281, i281), (282, i282), (283, i283), (284, i284), (287, i287), (294, i294), (295, i295), (297, i297), (298, i298), (299, i299), (339, i339), (340, i340), (341, i341), (342, i342), (343, i343), (344, i344), (346, i346), (347, i347), (348, i348), (350, i350), (351, i351), (353, i353), (354, i354), (356, i356), (357, i357), (358, i358), (359, i359), (360, i360), (362, i362), (364, i364), (365, i365), (366, i366), (370, i370), (371, i371), (373, i373), (374, i374), (377, i377), (378, i378), (380, i380), (387, i387), (388, i388), (393, i393), (404, i404), (406, i406), (416, i416), (418, i418), (419, i419), (421, i421)]
def meths : List ((TypeId × String) × Mt) := [((162, "Step"), .fn 421), ((162, "Ans"), .fn 419), ((158, "Step"), .fn 418), ((158, "Ans"), .fn 416), ((156, "Step"), .fn 353), ((156, "Ans"), .fn 351), ((152, "Step"), .emb), ((152, "Result"), .emb), ((151, "Step"), .fn 350), ((151, "Ans"), .fn 348), ((148, "Step"), .fn 347), ((148, "Result"), .fn 346), ((145, "Step"), .fn 340), ((145, "Result"), .fn 339), ((119, "Step"), .fn 282), ((59, "Step"), .fn 15), ((59, "Ans"), .fn 17)]
def tbl : T FnI := (.n (.n (.n (.n (.n (.n (.n .e (some i63) .e) none (.n (.n (.n .e (some i287) .e) none .e) none (.n (.n .e (some i351) .e) none .e))) (some i15) (.n (.n (.n .e (some i143) .e) none .e) none .e)) (some i7) (.n (.n (.n .e (some i71) .e) none (.n (.n (.n .e (some i295) .e) none .e) none (.n (.n .e (some i359) .e) none .e))) (some i23) (.n (.n .e none (.n (.n .e (some i343) .e) none .e)) none (.n (.n .e (some i183) .e) none .e)))) (some i3) (.n (.n (.n (.n (.n .e none (.n .e (some i387) .e)) (some i67) .e) none (.n (.n .e none (.n .e (some i419) .e)) none .e)) (some i19) (.n (.n .e (some i83) (.n (.n .e (some i339) .e) none .e)) none (.n (.n .e (some i179) .e) none (.n (.n .e (some i371) .e) none .e)))) (some i11) (.n (.n (.n (.n .e (some i139) .e) (some i75) .e) none (.n (.n (.n .e (some i299) .e) none .e) none .e)) none (.n (.n (.n (.n .e (some i283) .e) none .e) none (.n (.n .e (some i347) .e) none .e)) none (.n (.n .e (some i187) .e) (some i123) .e))))) none (.n (.n (.n (.n (.n (.n (.n .e (some i257) .e) (some i129) .e) (some i65) .e) none (.n .e none (.n (.n .e (some i353) .e) none .e))) (some i17) (.n (.n .e (some i81) .e) none (.n (.n .e (some i177) .e) none (.n .e (some i241) .e)))) (some i9) (.n (.n (.n (.n .e none (.n .e (some i393) .e)) (some i73) .e) none (.n (.n (.n .e (some i297) .e) none .e) none .e)) none (.n (.n (.n (.n .e (some i281) .e) none .e) none .e) none (.n .e none (.n (.n .e (some i377) .e) (some i249) .e))))) (some i5) (.n (.n (.n (.n .e (some i69) .e) none (.n (.n .e none (.n .e (some i421) .e)) none (.n (.n .e (some i357) .e) none .e))) (some i21) (.n (.n .e none (.n (.n .e (some i341) .e) none .e)) none (.n (.n .e (some i181) .e) none (.n (.n .e (some i373) .e) (some i245) .e)))) (some i13) (.n (.n (.n .e (some i77) .e) none (.n .e none (.n (.n .e (some i365) .e) none .e))) none (.n (.n .e (some i93) .e) none (.n .e (some i125) .e)))))) none (.n (.n (.n (.n (.n (.n (.n .e (some i128) .e) (some i64) .e) none (.n (.n .e none (.n .e (some i416) .e)) none .e)) (some i16) (.n (.n .e (some i80) .e) none (.n .e none (.n .e (some i240) .e)))) (some i8) (.n (.n (.n .e (some i72) .e) none (.n .e none (.n (.n .e (some i360) .e) none .e))) (some i24) (.n (.n .e none (.n (.n .e (some i344) .e) none .e)) none (.n (.n .e (some i184) .e) none (.n .e (some i248) .e))))) (some i4) (.n (.n (.n (.n (.n .e none (.n .e (some i388) .e)) (some i68) .e) none (.n .e none (.n (.n .e (some i356) .e) none .e))) (some i20) (.n (.n (.n .e none (.n .e (some i404) .e)) none (.n (.n .e (some i340) .e) none .e)) none (.n (.n .e (some i180) .e) none (.n .e (some i244) .e)))) (some i12) (.n (.n (.n .e (some i76) .e) none (.n .e none (.n (.n .e (some i364) .e) none .e))) none (.n (.n (.n (.n .e (some i284) .e) none .e) none (.n (.n .e (some i348) .e) none .e)) none (.n .e (some i124) (.n (.n .e (some i380) .e) none .e)))))) none (.n (.n (.n (.n .e none (.n (.n .e none (.n .e (some i418) .e)) none (.n (.n .e (some i354) .e) none .e))) (some i18) (.n .e none (.n (.n .e (some i178) .e) none (.n (.n .e (some i370) .e) (some i242) .e)))) (some i10) (.n (.n (.n .e (some i74) .e) none (.n (.n (.n .e (some i298) .e) none .e) none (.n (.n .e (some i362) .e) none .e))) none (.n (.n (.n (.n .e (some i282) .e) none .e) none (.n (.n .e (some i346) .e) none .e)) none (.n (.n .e (some i186) .e) none (.n (.n .e (some i378) .e) none .e))))) (some i6) (.n (.n (.n (.n .e (some i70) .e) none (.n (.n (.n .e (some i294) .e) none .e) none (.n (.n .e (some i358) .e) none .e))) (some i22) (.n (.n (.n (.n .e (some i278) .e) none (.n .e (some i406) .e)) none (.n (.n .e (some i342) .e) none .e)) none (.n (.n .e (some i182) .e) none (.n (.n .e (some i374) .e) (some i246) .e)))) (some i14) (.n (.n (.n (.n .e (some i142) .e) none (.n .e (some i206) .e)) none (.n .e none (.n (.n .e (some i366) .e) none .e))) none (.n (.n .e none (.n (.n .e (some i350) .e) none .e)) none (.n .e (some i126) .e)))))))
theorem fns_all : ∀ p ∈ fns, ∃ fn, Tryz.prog.funcs[p.1]? = some fn ∧ compF Tryz.prog gl fn = some p.2.plain :=
  all_cons ⟨_, Tryz.func3, c3⟩ <|
  all_cons ⟨_, Tryz.func4, c4⟩ <|
  all_cons ⟨_, Tryz.func5, c5⟩ <|
  all_cons ⟨_, Tryz.func6, c6⟩ <|
  all_cons ⟨_, Tryz.func7, c7⟩ <|
  all_cons ⟨_, Tryz.func8, c8⟩ <|
  all_cons ⟨_, Tryz.func9, c9⟩ <|
  all_cons ⟨_, Tryz.func10, c10⟩ <|
  all_cons ⟨_, Tryz.func11, c11⟩ <|
  all_cons ⟨_, Tryz.func12, c12⟩ <|
  all_cons ⟨_, Tryz.func13, c13⟩ <|
  all_cons ⟨_, Tryz.func14, c14⟩ <|
  all_cons ⟨_, Tryz.func15, c15⟩ <|
  all_cons ⟨_, Tryz.func16, c16⟩ <|
  all_cons ⟨_, Tryz.func17, c17⟩ <|
  all_cons ⟨_, Tryz.func18, c18⟩ <|
  all_cons ⟨_, Tryz.func19, c19⟩ <|
  all_cons ⟨_, Tryz.func20, c20⟩ <|
  all_cons ⟨_, Tryz.func21, c21⟩ <|
  all_cons ⟨_, Tryz.func22, c22⟩ <|
  all_cons ⟨_, Tryz.func23, c23⟩ <|
  all_cons ⟨_, Tryz.func24, c24⟩ <|
  all_cons ⟨_, Tryz.func63, c63⟩ <|
  all_cons ⟨_, Tryz.func64, c64⟩ <|
  all_cons ⟨_, Tryz.func65, c65⟩ <|
  all_cons ⟨_, Tryz.func67, c67⟩ <|
  all_cons ⟨_, Tryz.func68, c68⟩ <|
  all_cons ⟨_, Tryz.func69, c69⟩ <|
  all_cons ⟨_, Tryz.func70, c70⟩ <|
  all_cons ⟨_, Tryz.func71, c71⟩ <|
  all_cons ⟨_, Tryz.func72, c72⟩ <|
  all_cons ⟨_, Tryz.func73, c73⟩ <|
  all_cons ⟨_, Tryz.func74, c74⟩ <|
  all_cons ⟨_, Tryz.func75, c75⟩ <|
  all_cons ⟨_, Tryz.func76, c76⟩ <|
  all_cons ⟨_, Tryz.func77, c77⟩ <|
  all_cons ⟨_, Tryz.func80, c80⟩ <|
  all_cons ⟨_, Tryz.func81, c81⟩ <|
  all_cons ⟨_, Tryz.func83, c83⟩ <|
  all_cons ⟨_, Tryz.func93, c93⟩ <|
  all_cons ⟨_, Tryz.func123, c123⟩ <|
  all_cons ⟨_, Tryz.func124, c124⟩ <|
  all_cons ⟨_, Tryz.func125, c125⟩ <|
  all_cons ⟨_, Tryz.func126, c126⟩ <|
  all_cons ⟨_, Tryz.func128, c128⟩ <|
  all_cons ⟨_, Tryz.func129, c129⟩ <|
  all_cons ⟨_, Tryz.func139, c139⟩ <|
  all_cons ⟨_, Tryz.func142, c142⟩ <|
  all_cons ⟨_, Tryz.func143, c143⟩ <|
  all_cons ⟨_, Tryz.func177, c177⟩ <|
  all_cons ⟨_, Tryz.func178, c178⟩ <|
  all_cons ⟨_, Tryz.func179, c179⟩ <|
  all_cons ⟨_, Tryz.func180, c180⟩ <|
  all_cons ⟨_, Tryz.func181, c181⟩ <|
  all_cons ⟨_, Tryz.func182, c182⟩ <|
  all_cons ⟨_, Tryz.func183, c183⟩ <|
  all_cons ⟨_, Tryz.func184, c184⟩ <|
  all_cons ⟨_, Tryz.func186, c186⟩ <|
  all_cons ⟨_, Tryz.func187, c187⟩ <|
  all_cons ⟨_, Tryz.func206, c206⟩ <|
  all_cons ⟨_, Tryz.func240, c240⟩ <|
  all_cons ⟨_, Tryz.func241, c241⟩ <|
  all_cons ⟨_, Tryz.func242, c242⟩ <|
  all_cons ⟨_, Tryz.func244, c244⟩ <|
  all_cons ⟨_, Tryz.func245, c245⟩ <|
  all_cons ⟨_, Tryz.func246, c246⟩ <|
  all_cons ⟨_, Tryz.func248, c248⟩ <|
  all_cons ⟨_, Tryz.func249, c249⟩ <|
  all_cons ⟨_, Tryz.func257, c257⟩ <|
  all_cons ⟨_, Tryz.func278, c278⟩ <|
  all_cons ⟨_, Tryz.func281, c281⟩ <|
  all_cons ⟨_, Tryz.func282, c282⟩ <|
  all_cons ⟨_, Tryz.func283, c283⟩ <|
  all_cons ⟨_, Tryz.func284, c284⟩ <|
  all_cons ⟨_, Tryz.func287, c287⟩ <|
  all_cons ⟨_, Tryz.func294, c294⟩ <|
  all_cons ⟨_, Tryz.func295, c295⟩ <|
  all_cons ⟨_, Tryz.func297, c297⟩ <|
  all_cons ⟨_, Tryz.func298, c298⟩ <|
  all_cons ⟨_, Tryz.func299, c299⟩ <|
  all_cons ⟨_, Tryz.func339, c339⟩ <|
  all_cons ⟨_, Tryz.func340, c340⟩ <|
  all_cons ⟨_, Tryz.func341, c341⟩ <|
  all_cons ⟨_, Tryz.func342, c342⟩ <|
  all_cons ⟨_, Tryz.func343, c343⟩ <|
  all_cons ⟨_, Tryz.func344, c344⟩ <|
  all_cons ⟨_, Tryz.func346, c346⟩ <|
  all_cons ⟨_, Tryz.func347, c347⟩ <|
  all_cons ⟨_, Tryz.func348, c348⟩ <|
  all_cons ⟨_, Tryz.func350, c350⟩ <|
  all_cons ⟨_, Tryz.func351, c351⟩ <|
  all_cons ⟨_, Tryz.func353, c353⟩ <|
  all_cons ⟨_, Tryz.func354, c354⟩ <|
  all_cons ⟨_, Tryz.func356, c356⟩ <|
  all_cons ⟨_, Tryz.func357, c357⟩ <|
  all_cons ⟨_, Tryz.func358, c358⟩ <|
  all_cons ⟨_, Tryz.func359, c359⟩ <|
  all_cons ⟨_, Tryz.func360, c360⟩ <|
  all_cons ⟨_, Tryz.func362, c362⟩ <|
  all_cons ⟨_, Tryz.func364, c364⟩ <|
  all_cons ⟨_, Tryz.func365, c365⟩ <|
  all_cons ⟨_, Tryz.func366, c366⟩ <|
  all_cons ⟨_, Tryz.func370, c370⟩ <|
  all_cons ⟨_, Tryz.func371, c371⟩ <|
  all_cons ⟨_, Tryz.func373, c373⟩ <|
  all_cons ⟨_, Tryz.func374, c374⟩ <|
  all_cons ⟨_, Tryz.func377, c377⟩ <|
  all_cons ⟨_, Tryz.func378, c378⟩ <|
  all_cons ⟨_, Tryz.func380, c380⟩ <|
  all_cons ⟨_, Tryz.func387, c387⟩ <|
  all_cons ⟨_, Tryz.func388, c388⟩ <|
  all_cons ⟨_, Tryz.func393, c393⟩ <|
  all_cons ⟨_, Tryz.func404, c404⟩ <|
  all_cons ⟨_, Tryz.func406, c406⟩ <|
  all_cons ⟨_, Tryz.func416, c416⟩ <|
  all_cons ⟨_, Tryz.func418, c418⟩ <|
  all_cons ⟨_, Tryz.func419, c419⟩ <|
  all_cons ⟨_, Tryz.func421, c421⟩ <|
  all_nil
theorem meths_all : ∀ p ∈ meths, MtOk Tryz.prog p.1.1 p.1.2 p.2 :=
  all_cons (fun v w => ⟨by kernel_rfl, by kernel_rfl⟩) <|
  all_cons (fun v w => ⟨by kernel_rfl, by kernel_rfl⟩) <|
  all_cons (fun v w => ⟨by kernel_rfl, by kernel_rfl⟩) <|
  all_cons (fun v w => ⟨by kernel_rfl, by kernel_rfl⟩) <|
  all_cons (fun v w => ⟨by kernel_rfl, by kernel_rfl⟩) <|
  all_cons (fun v w => ⟨by kernel_rfl, by kernel_rfl⟩) <|
  all_cons (emb_ok (ft := 0) (by kernel_rfl) (by kernel_rfl) (fun a w => by kernel_rfl)) <|
  all_cons (emb_ok (ft := 0) (by kernel_rfl) (by kernel_rfl) (fun a w => by kernel_rfl)) <|
  all_cons (fun v w => ⟨by kernel_rfl, by kernel_rfl⟩) <|
  all_cons (fun v w => ⟨by kernel_rfl, by kernel_rfl⟩) <|
  all_cons (fun v w => ⟨by kernel_rfl, by kernel_rfl⟩) <|
  all_cons (fun v w => ⟨by kernel_rfl, by kernel_rfl⟩) <|
  all_cons (fun v w => ⟨by kernel_rfl, by kernel_rfl⟩) <|
  all_cons (fun v w => ⟨by kernel_rfl, by kernel_rfl⟩) <|
  all_cons (fun v w => ⟨by kernel_rfl, by kernel_rfl⟩) <|
  all_cons (fun v w => ⟨by kernel_rfl, by kernel_rfl⟩) <|
  all_cons (fun v w => ⟨by kernel_rfl, by kernel_rfl⟩) <|
  all_nil
theorem tbl_eq : treeOf fns = tbl := by kernel_rfl
end Go.Proofs.YtecebpjfidpchaaGreat.Run
