/- PART of the proof of MapsKnown: these are the program's functions. No condition. -/
import Derived.Test.YtgoplodcgpfneaaGreatDoorT1
import Derived.Test.YtgoplodcgpfneaaGreatDoorV24
namespace Go.Proofs.YtgoplodcgpfneaaGreatDoor.Run
open Go Go.Abs
set_option maxRecDepth 100000
def gl : List Nat := [1, 0]
theorem c5 : compF Tryz.prog gl Tryz.f5 = some i5 := by kernel_rfl
theorem c6 : compF Tryz.prog gl Tryz.f6 = some i6 := by kernel_rfl
theorem c7 : compF Tryz.prog gl Tryz.f7 = some i7 := by kernel_rfl
theorem c9 : compF Tryz.prog gl Tryz.f9 = some i9 := by kernel_rfl
theorem c10 : compF Tryz.prog gl Tryz.f10 = some i10 := by kernel_rfl
theorem c11 : compF Tryz.prog gl Tryz.f11 = some i11 := by kernel_rfl
theorem c12 : compF Tryz.prog gl Tryz.f12 = some i12 := by kernel_rfl
theorem c13 : compF Tryz.prog gl Tryz.f13 = some i13 := by kernel_rfl
theorem c14 : compF Tryz.prog gl Tryz.f14 = some i14 := by kernel_rfl
theorem c15 : compF Tryz.prog gl Tryz.f15 = some i15 := by kernel_rfl
theorem c16 : compF Tryz.prog gl Tryz.f16 = some i16 := by kernel_rfl
theorem c17 : compF Tryz.prog gl Tryz.f17 = some i17 := by kernel_rfl
theorem c18 : compF Tryz.prog gl Tryz.f18 = some i18 := by kernel_rfl
theorem c19 : compF Tryz.prog gl Tryz.f19 = some i19 := by kernel_rfl
theorem c20 : compF Tryz.prog gl Tryz.f20 = some i20 := by kernel_rfl
theorem c21 : compF Tryz.prog gl Tryz.f21 = some i21 := by kernel_rfl
theorem c22 : compF Tryz.prog gl Tryz.f22 = some i22 := by kernel_rfl
theorem c23 : compF Tryz.prog gl Tryz.f23 = some i23 := by kernel_rfl
theorem c24 : compF Tryz.prog gl Tryz.f24 = some i24 := by kernel_rfl
theorem c25 : compF Tryz.prog gl Tryz.f25 = some i25 := by kernel_rfl
theorem c26 : compF Tryz.prog gl Tryz.f26 = some i26 := by kernel_rfl
theorem c27 : compF Tryz.prog gl Tryz.f27 = some i27 := by kernel_rfl
theorem c28 : compF Tryz.prog gl Tryz.f28 = some i28 := by kernel_rfl
theorem c29 : compF Tryz.prog gl Tryz.f29 = some i29 := by kernel_rfl
theorem c30 : compF Tryz.prog gl Tryz.f30 = some i30 := by kernel_rfl
theorem c31 : compF Tryz.prog gl Tryz.f31 = some i31 := by kernel_rfl
theorem c32 : compF Tryz.prog gl Tryz.f32 = some i32 := by kernel_rfl
theorem c33 : compF Tryz.prog gl Tryz.f33 = some i33 := by kernel_rfl
theorem c34 : compF Tryz.prog gl Tryz.f34 = some i34 := by kernel_rfl
theorem c35 : compF Tryz.prog gl Tryz.f35 = some i35 := by kernel_rfl
theorem c36 : compF Tryz.prog gl Tryz.f36 = some i36 := by kernel_rfl
theorem c37 : compF Tryz.prog gl Tryz.f37 = some i37 := by kernel_rfl
theorem c38 : compF Tryz.prog gl Tryz.f38 = some i38 := by kernel_rfl
theorem c39 : compF Tryz.prog gl Tryz.f39 = some i39 := by kernel_rfl
theorem c40 : compF Tryz.prog gl Tryz.f40 = some i40 := by kernel_rfl
theorem c41 : compF Tryz.prog gl Tryz.f41 = some i41 := by kernel_rfl
theorem c42 : compF Tryz.prog gl Tryz.f42 = some i42 := by kernel_rfl
theorem c45 : compF Tryz.prog gl Tryz.f45 = some i45 := by kernel_rfl
theorem c46 : compF Tryz.prog gl Tryz.f46 = some i46 := by kernel_rfl
theorem c47 : compF Tryz.prog gl Tryz.f47 = some i47 := by kernel_rfl
theorem c48 : compF Tryz.prog gl Tryz.f48 = some i48 := by kernel_rfl
theorem c49 : compF Tryz.prog gl Tryz.f49 = some i49 := by kernel_rfl
theorem c50 : compF Tryz.prog gl Tryz.f50 = some i50 := by kernel_rfl
theorem c51 : compF Tryz.prog gl Tryz.f51 = some i51 := by kernel_rfl
theorem c52 : compF Tryz.prog gl Tryz.f52 = some i52 := by kernel_rfl
theorem c53 : compF Tryz.prog gl Tryz.f53 = some i53 := by kernel_rfl
theorem c54 : compF Tryz.prog gl Tryz.f54 = some i54 := by kernel_rfl
theorem c58 : compF Tryz.prog gl Tryz.f58 = some i58 := by kernel_rfl
theorem c66 : compF Tryz.prog gl Tryz.f66 = some i66 := by kernel_rfl
theorem c67 : compF Tryz.prog gl Tryz.f67 = some i67 := by kernel_rfl
theorem c68 : compF Tryz.prog gl Tryz.f68 = some i68 := by kernel_rfl
theorem c72 : compF Tryz.prog gl Tryz.f72 = some i72 := by kernel_rfl
theorem c80 : compF Tryz.prog gl Tryz.f80 = some i80 := by kernel_rfl
theorem c81 : compF Tryz.prog gl Tryz.f81 = some i81 := by kernel_rfl
theorem c82 : compF Tryz.prog gl Tryz.f82 = some i82 := by kernel_rfl
theorem c83 : compF Tryz.prog gl Tryz.f83 = some i83 := by kernel_rfl
theorem c87 : compF Tryz.prog gl Tryz.f87 = some i87 := by kernel_rfl
theorem c90 : compF Tryz.prog gl Tryz.f90 = some i90 := by kernel_rfl
theorem c91 : compF Tryz.prog gl Tryz.f91 = some i91 := by kernel_rfl
theorem c93 : compF Tryz.prog gl Tryz.f93 = some i93 := by kernel_rfl
theorem c94 : compF Tryz.prog gl Tryz.f94 = some i94 := by kernel_rfl
theorem c95 : compF Tryz.prog gl Tryz.f95 = some i95 := by kernel_rfl
theorem c96 : compF Tryz.prog gl Tryz.f96 = some i96 := by kernel_rfl
theorem c97 : compF Tryz.prog gl Tryz.f97 = some i97 := by kernel_rfl
theorem c98 : compF Tryz.prog gl Tryz.f98 = some i98 := by kernel_rfl
theorem c102 : compF Tryz.prog gl Tryz.f102 = some i102 := by kernel_rfl
theorem c104 : compF Tryz.prog gl Tryz.f104 = some i104 := by kernel_rfl
theorem c105 : compF Tryz.prog gl Tryz.f105 = some i105 := by kernel_rfl
theorem c108 : compF Tryz.prog gl Tryz.f108 = some i108 := by kernel_rfl
theorem c109 : compF Tryz.prog gl Tryz.f109 = some i109 := by kernel_rfl
theorem c110 : compF Tryz.prog gl Tryz.f110 = some i110 := by kernel_rfl
theorem c111 : compF Tryz.prog gl Tryz.f111 = some i111 := by kernel_rfl
theorem c112 : compF Tryz.prog gl Tryz.f112 = some i112 := by kernel_rfl
theorem c113 : compF Tryz.prog gl Tryz.f113 = some i113 := by kernel_rfl
theorem c118 : compF Tryz.prog gl Tryz.f118 = some i118 := by kernel_rfl
theorem c119 : compF Tryz.prog gl Tryz.f119 = some i119 := by kernel_rfl
theorem c120 : compF Tryz.prog gl Tryz.f120 = some i120 := by kernel_rfl
theorem c124 : compF Tryz.prog gl Tryz.f124 = some i124 := by kernel_rfl
theorem c125 : compF Tryz.prog gl Tryz.f125 = some i125 := by kernel_rfl
theorem c126 : compF Tryz.prog gl Tryz.f126 = some i126 := by kernel_rfl
theorem c128 : compF Tryz.prog gl Tryz.f128 = some i128 := by kernel_rfl
theorem c133 : compF Tryz.prog gl Tryz.f133 = some i133 := by kernel_rfl
theorem c135 : compF Tryz.prog gl Tryz.f135 = some i135 := by kernel_rfl
theorem c139 : compF Tryz.prog gl Tryz.f139 = some i139 := by kernel_rfl
theorem c144 : compF Tryz.prog gl Tryz.f144 = some i144 := by kernel_rfl
theorem c145 : compF Tryz.prog gl Tryz.f145 = some i145 := by kernel_rfl
theorem c148 : compF Tryz.prog gl Tryz.f148 = some i148 := by kernel_rfl
theorem c149 : compF Tryz.prog gl Tryz.f149 = some i149 := by kernel_rfl
theorem c150 : compF Tryz.prog gl Tryz.f150 = some i150 := by kernel_rfl
theorem c151 : compF Tryz.prog gl Tryz.f151 = some i151 := by kernel_rfl
theorem c154 : compF Tryz.prog gl Tryz.f154 = some i154 := by kernel_rfl
theorem c155 : compF Tryz.prog gl Tryz.f155 = some i155 := by kernel_rfl
theorem c160 : compF Tryz.prog gl Tryz.f160 = some i160 := by kernel_rfl
theorem c164 : compF Tryz.prog gl Tryz.f164 = some i164 := by kernel_rfl
theorem c165 : compF Tryz.prog gl Tryz.f165 = some i165 := by kernel_rfl
theorem c168 : compF Tryz.prog gl Tryz.f168 = some i168 := by kernel_rfl
theorem c169 : compF Tryz.prog gl Tryz.f169 = some i169 := by kernel_rfl
theorem c170 : compF Tryz.prog gl Tryz.f170 = some i170 := by kernel_rfl
theorem c171 : compF Tryz.prog gl Tryz.f171 = some i171 := by kernel_rfl
theorem c172 : compF Tryz.prog gl Tryz.f172 = some i172 := by kernel_rfl
theorem c173 : compF Tryz.prog gl Tryz.f173 = some i173 := by kernel_rfl
theorem c174 : compF Tryz.prog gl Tryz.f174 = some i174 := by kernel_rfl
theorem c175 : compF Tryz.prog gl Tryz.f175 = some i175 := by kernel_rfl
theorem c179 : compF Tryz.prog gl Tryz.f179 = some i179 := by kernel_rfl
theorem c181 : compF Tryz.prog gl Tryz.f181 = some i181 := by kernel_rfl
theorem c182 : compF Tryz.prog gl Tryz.f182 = some i182 := by kernel_rfl
theorem c195 : compF Tryz.prog gl Tryz.f195 = some i195 := by kernel_rfl
theorem c196 : compF Tryz.prog gl Tryz.f196 = some i196 := by kernel_rfl
theorem c197 : compF Tryz.prog gl Tryz.f197 = some i197 := by kernel_rfl
theorem c198 : compF Tryz.prog gl Tryz.f198 = some i198 := by kernel_rfl
theorem c201 : compF Tryz.prog gl Tryz.f201 = some i201 := by kernel_rfl
theorem c206 : compF Tryz.prog gl Tryz.f206 = some i206 := by kernel_rfl
theorem c208 : compF Tryz.prog gl Tryz.f208 = some i208 := by kernel_rfl
theorem c209 : compF Tryz.prog gl Tryz.f209 = some i209 := by kernel_rfl
theorem c213 : compF Tryz.prog gl Tryz.f213 = some i213 := by kernel_rfl
theorem c215 : compF Tryz.prog gl Tryz.f215 = some i215 := by kernel_rfl
theorem c216 : compF Tryz.prog gl Tryz.f216 = some i216 := by kernel_rfl
theorem c217 : compF Tryz.prog gl Tryz.f217 = some i217 := by kernel_rfl
theorem c220 : compF Tryz.prog gl Tryz.f220 = some i220 := by kernel_rfl
theorem c236 : compF Tryz.prog gl Tryz.f236 = some i236 := by kernel_rfl
theorem c237 : compF Tryz.prog gl Tryz.f237 = some i237 := by kernel_rfl
theorem c243 : compF Tryz.prog gl Tryz.f243 = some i243 := by kernel_rfl
theorem c245 : compF Tryz.prog gl Tryz.f245 = some i245 := by kernel_rfl
theorem c247 : compF Tryz.prog gl Tryz.f247 = some i247 := by kernel_rfl
theorem c248 : compF Tryz.prog gl Tryz.f248 = some i248 := by kernel_rfl
theorem c249 : compF Tryz.prog gl Tryz.f249 = some i249 := by kernel_rfl
theorem c250 : compF Tryz.prog gl Tryz.f250 = some i250 := by kernel_rfl
theorem c262 : compF Tryz.prog gl Tryz.f262 = some i262 := by kernel_rfl
theorem c263 : compF Tryz.prog gl Tryz.f263 = some i263 := by kernel_rfl
theorem c281 : compF Tryz.prog gl Tryz.f281 = some i281 := by kernel_rfl
theorem c282 : compF Tryz.prog gl Tryz.f282 = some i282 := by kernel_rfl
theorem c285 : compF Tryz.prog gl Tryz.f285 = some i285 := by kernel_rfl
theorem c286 : compF Tryz.prog gl Tryz.f286 = some i286 := by kernel_rfl
theorem c287 : compF Tryz.prog gl Tryz.f287 = some i287 := by kernel_rfl
theorem c288 : compF Tryz.prog gl Tryz.f288 = some i288 := by kernel_rfl
theorem c289 : compF Tryz.prog gl Tryz.f289 = some i289 := by kernel_rfl
theorem c290 : compF Tryz.prog gl Tryz.f290 = some i290 := by kernel_rfl
theorem c291 : compF Tryz.prog gl Tryz.f291 = some i291 := by kernel_rfl
theorem c292 : compF Tryz.prog gl Tryz.f292 = some i292 := by kernel_rfl
theorem c293 : compF Tryz.prog gl Tryz.f293 = some i293 := by kernel_rfl
theorem c295 : compF Tryz.prog gl Tryz.f295 = some i295 := by kernel_rfl
theorem c298 : compF Tryz.prog gl Tryz.f298 = some i298 := by kernel_rfl
theorem c299 : compF Tryz.prog gl Tryz.f299 = some i299 := by kernel_rfl
theorem c300 : compF Tryz.prog gl Tryz.f300 = some i300 := by kernel_rfl
theorem c302 : compF Tryz.prog gl Tryz.f302 = some i302 := by kernel_rfl
theorem c303 : compF Tryz.prog gl Tryz.f303 = some i303 := by kernel_rfl
theorem c305 : compF Tryz.prog gl Tryz.f305 = some i305 := by kernel_rfl
theorem c306 : compF Tryz.prog gl Tryz.f306 = some i306 := by kernel_rfl
theorem c307 : compF Tryz.prog gl Tryz.f307 = some i307 := by kernel_rfl
theorem c308 : compF Tryz.prog gl Tryz.f308 = some i308 := by kernel_rfl
theorem c309 : compF Tryz.prog gl Tryz.f309 = some i309 := by kernel_rfl
theorem c310 : compF Tryz.prog gl Tryz.f310 = some i310 := by kernel_rfl
def fns : List (Nat × FnI) := [(5, i5), (6, i6), (7, i7), (9, i9), (10, i10), (11, i11), (12, i12), (13, i13), (14, i14), (15, i15), (16, i16), (17, i17), (18, i18), (19, i19), (20, i20), (21, i21), (22, i22), (23, i23), (24, i24), (25, i25), (26, i26), (27, i27), (28, i28), (29, i29), (30, i30), (31, i31), (32, i32), (33, i33), (34, i34), (35, i35), (36, i36), (37, i37), (38, i38), (39, i39), (40, i40), (41, i41), (42, i42), (45, i45), (46, i46), (47, i47), (48, i48), (49, i49), (50, i50), (51, i51), (52, i52), (53, i53), (54, i54), (58, i58), (66, i66), (67, i67), (68, i68), (72, i72), (80, i80), (81, i81), (82, i82), (83, i83), (87, i87), (90, i90), (91, i91), (93, i93), (94, i94), (95, i95), (96, i96), (97, i97), (98, i98), (102, i102), (104, i104), (105, i105), (108, i108), (109, i109), (110, i110), (111, i111), (112, i112), (113, i113), (118, i118), (119, i119), (120, i120), (124, i124), (125, i125), (126, i126), (128, i128), (133, i133), (135, i135), (139, i139), (144, i144), (145, i145), (148, i148), (149, i149), (150, i150), (151, i151), (154, i154), (155, i155), (160, i160), (164, i164), (165, i165), (168, i168), (169, i169), (170, i170), (171, i171), (172, i172), (173, i173), (174, i174), (175, i175), (179, i179), (181, i181), (182, i182), (195, i195), (196, i196), (197, i197), (198, i198), (201, i201), (206, i206), (208, i208), (209, i209), (213, i213), (215, i215), (216, i216), (217, i217), (220, i220), (236, i236), (237, i237), (243, i243), (245, i245), (247, i247), (248, i248), (249, i249), (250, i250), (262, i262), (263, i263), (281, i281), (282, i282), (285, i285), (286, i286), (287, i287), (288, i288), (289, i289), (290, i290), (291, i291), (292, i292), (293, i293), (295, i295), (298, i298), (299, i299), (300, i300), (302, i302), (303, i303), (305, i305), (306, i306), (307, i307), (308, i308), (309, i309), (310, i310)]
def meths : List ((TypeId × String) × FuncId) := [((171, "Step"), 145), ((152, "Step"), 307), ((152, "Result"), 306), ((141, "Step"), 72), ((141, "Result"), 305), ((124, "Step"), 58), ((124, "Result"), 303), ((118, "Step"), 288), ((118, "Result"), 287), ((113, "Step"), 286), ((113, "Result"), 285), ((101, "Step"), 282), ((101, "Result"), 281)]
def tbl : T FnI := (.n (.n (.n (.n (.n (.n .e (some i31) (.n (.n (.n .e (some i287) .e) none .e) (some i95) .e)) (some i15) (.n .e (some i47) (.n (.n (.n .e (some i303) .e) (some i175) .e) (some i111) .e))) (some i7) (.n (.n (.n (.n (.n .e (some i263) .e) (some i135) .e) none .e) (some i39) (.n (.n (.n .e (some i295) .e) none .e) none .e)) (some i23) (.n (.n (.n .e (some i151) .e) (some i87) (.n .e (some i215) .e)) none (.n .e (some i119) (.n .e (some i247) .e))))) none (.n (.n (.n (.n .e (some i67) (.n .e (some i195) .e)) (some i35) (.n (.n (.n .e (some i291) .e) none .e) none .e)) (some i19) (.n (.n .e (some i83) .e) (some i51) (.n (.n (.n .e (some i307) .e) (some i179) .e) none (.n .e (some i243) .e)))) (some i11) (.n (.n (.n (.n .e (some i139) .e) none .e) none (.n (.n (.n .e (some i299) .e) (some i171) .e) none .e)) (some i27) (.n (.n (.n .e (some i155) .e) (some i91) .e) none .e)))) none (.n (.n (.n (.n .e (some i33) (.n (.n (.n .e (some i289) .e) none .e) (some i97) .e)) (some i17) (.n (.n (.n .e (some i145) .e) (some i81) (.n .e (some i209) .e)) (some i49) (.n (.n (.n .e (some i305) .e) none .e) (some i113) .e))) (some i9) (.n (.n (.n .e none (.n .e (some i201) .e)) (some i41) (.n (.n .e (some i169) .e) (some i105) .e)) (some i25) (.n (.n (.n (.n .e (some i281) .e) none .e) none (.n .e (some i217) .e)) none (.n .e none (.n .e (some i249) .e))))) (some i5) (.n (.n (.n (.n (.n .e (some i133) .e) none (.n .e (some i197) .e)) (some i37) (.n (.n (.n .e (some i293) .e) (some i165) .e) none .e)) (some i21) (.n (.n (.n .e (some i149) .e) none (.n .e (some i213) .e)) (some i53) (.n (.n (.n .e (some i309) .e) (some i181) .e) none (.n .e (some i245) .e)))) (some i13) (.n (.n .e (some i45) (.n (.n .e (some i173) .e) (some i109) (.n .e (some i237) .e))) (some i29) (.n (.n (.n (.n .e (some i285) .e) none .e) (some i93) .e) none (.n .e (some i125) .e)))))) none (.n (.n (.n (.n (.n (.n (.n .e (some i128) .e) none .e) (some i32) (.n (.n (.n .e (some i288) .e) (some i160) .e) (some i96) .e)) (some i16) (.n (.n (.n .e (some i144) .e) (some i80) (.n .e (some i208) .e)) (some i48) (.n .e (some i112) .e))) none (.n (.n (.n .e (some i72) .e) (some i40) (.n (.n .e (some i168) .e) (some i104) .e)) (some i24) (.n (.n .e none (.n .e (some i216) .e)) none (.n .e (some i120) (.n .e (some i248) .e))))) none (.n (.n (.n (.n .e (some i68) (.n .e (some i196) .e)) (some i36) (.n (.n (.n .e (some i292) .e) (some i164) .e) none .e)) (some i20) (.n (.n (.n .e (some i148) .e) none .e) (some i52) (.n (.n (.n .e (some i308) .e) none .e) none .e))) (some i12) (.n (.n .e none (.n (.n (.n .e (some i300) .e) (some i172) .e) (some i108) (.n .e (some i236) .e))) (some i28) (.n (.n .e none (.n .e (some i220) .e)) none (.n .e (some i124) .e))))) none (.n (.n (.n (.n (.n .e (some i66) .e) (some i34) (.n (.n (.n .e (some i290) .e) none .e) (some i98) .e)) (some i18) (.n (.n .e (some i82) .e) (some i50) (.n (.n (.n .e (some i306) .e) none .e) none .e))) (some i10) (.n (.n .e (some i42) (.n (.n (.n .e (some i298) .e) (some i170) .e) none .e)) (some i26) (.n (.n (.n (.n .e (some i282) .e) (some i154) .e) (some i90) .e) (some i58) (.n .e none (.n .e (some i250) .e))))) (some i6) (.n (.n (.n (.n (.n (.n .e (some i262) .e) none .e) none (.n .e (some i198) .e)) (some i38) (.n .e (some i102) .e)) (some i22) (.n (.n (.n .e (some i150) .e) none .e) (some i54) (.n (.n (.n .e (some i310) .e) (some i182) .e) (some i118) .e))) (some i14) (.n (.n (.n .e none (.n .e (some i206) .e)) (some i46) (.n (.n (.n .e (some i302) .e) (some i174) .e) (some i110) .e)) (some i30) (.n (.n (.n (.n .e (some i286) .e) none .e) (some i94) .e) none (.n .e (some i126) .e)))))))
theorem fns_all : ∀ p ∈ fns, ∃ fn, Tryz.prog.funcs[p.1]? = some fn ∧ compF Tryz.prog gl fn = some p.2 :=
  all_cons ⟨_, Tryz.func5, c5⟩ <|
  all_cons ⟨_, Tryz.func6, c6⟩ <|
  all_cons ⟨_, Tryz.func7, c7⟩ <|
  all_cons ⟨_, Tryz.func9, c9⟩ <|
  all_cons ⟨_, Tryz.func10, c10⟩ <|
  all_cons ⟨_, Tryz.func11, c11⟩ <|
  all_cons ⟨_, Tryz.func12, c12⟩ <|
  all_cons ⟨_, Tryz.func13, c13⟩ <|
  all_cons ⟨_, Tryz.func14, c14⟩ <|
  all_cons ⟨_, Tryz.func15, c15⟩ <|
  all_cons ⟨_, Tryz.func16, c16⟩ <|
  all_cons ⟨_, Tryz.func17, c17⟩ <|
  all_cons ⟨_, Tryz.func18, c18⟩ <|
  all_cons ⟨_, Tryz.func19, c19⟩ <|
  all_cons ⟨_, Tryz.func20, c20⟩ <|
  all_cons ⟨_, Tryz.func21, c21⟩ <|
  all_cons ⟨_, Tryz.func22, c22⟩ <|
  all_cons ⟨_, Tryz.func23, c23⟩ <|
  all_cons ⟨_, Tryz.func24, c24⟩ <|
  all_cons ⟨_, Tryz.func25, c25⟩ <|
  all_cons ⟨_, Tryz.func26, c26⟩ <|
  all_cons ⟨_, Tryz.func27, c27⟩ <|
  all_cons ⟨_, Tryz.func28, c28⟩ <|
  all_cons ⟨_, Tryz.func29, c29⟩ <|
  all_cons ⟨_, Tryz.func30, c30⟩ <|
  all_cons ⟨_, Tryz.func31, c31⟩ <|
  all_cons ⟨_, Tryz.func32, c32⟩ <|
  all_cons ⟨_, Tryz.func33, c33⟩ <|
  all_cons ⟨_, Tryz.func34, c34⟩ <|
  all_cons ⟨_, Tryz.func35, c35⟩ <|
  all_cons ⟨_, Tryz.func36, c36⟩ <|
  all_cons ⟨_, Tryz.func37, c37⟩ <|
  all_cons ⟨_, Tryz.func38, c38⟩ <|
  all_cons ⟨_, Tryz.func39, c39⟩ <|
  all_cons ⟨_, Tryz.func40, c40⟩ <|
  all_cons ⟨_, Tryz.func41, c41⟩ <|
  all_cons ⟨_, Tryz.func42, c42⟩ <|
  all_cons ⟨_, Tryz.func45, c45⟩ <|
  all_cons ⟨_, Tryz.func46, c46⟩ <|
  all_cons ⟨_, Tryz.func47, c47⟩ <|
  all_cons ⟨_, Tryz.func48, c48⟩ <|
  all_cons ⟨_, Tryz.func49, c49⟩ <|
  all_cons ⟨_, Tryz.func50, c50⟩ <|
  all_cons ⟨_, Tryz.func51, c51⟩ <|
  all_cons ⟨_, Tryz.func52, c52⟩ <|
  all_cons ⟨_, Tryz.func53, c53⟩ <|
  all_cons ⟨_, Tryz.func54, c54⟩ <|
  all_cons ⟨_, Tryz.func58, c58⟩ <|
  all_cons ⟨_, Tryz.func66, c66⟩ <|
  all_cons ⟨_, Tryz.func67, c67⟩ <|
  all_cons ⟨_, Tryz.func68, c68⟩ <|
  all_cons ⟨_, Tryz.func72, c72⟩ <|
  all_cons ⟨_, Tryz.func80, c80⟩ <|
  all_cons ⟨_, Tryz.func81, c81⟩ <|
  all_cons ⟨_, Tryz.func82, c82⟩ <|
  all_cons ⟨_, Tryz.func83, c83⟩ <|
  all_cons ⟨_, Tryz.func87, c87⟩ <|
  all_cons ⟨_, Tryz.func90, c90⟩ <|
  all_cons ⟨_, Tryz.func91, c91⟩ <|
  all_cons ⟨_, Tryz.func93, c93⟩ <|
  all_cons ⟨_, Tryz.func94, c94⟩ <|
  all_cons ⟨_, Tryz.func95, c95⟩ <|
  all_cons ⟨_, Tryz.func96, c96⟩ <|
  all_cons ⟨_, Tryz.func97, c97⟩ <|
  all_cons ⟨_, Tryz.func98, c98⟩ <|
  all_cons ⟨_, Tryz.func102, c102⟩ <|
  all_cons ⟨_, Tryz.func104, c104⟩ <|
  all_cons ⟨_, Tryz.func105, c105⟩ <|
  all_cons ⟨_, Tryz.func108, c108⟩ <|
  all_cons ⟨_, Tryz.func109, c109⟩ <|
  all_cons ⟨_, Tryz.func110, c110⟩ <|
  all_cons ⟨_, Tryz.func111, c111⟩ <|
  all_cons ⟨_, Tryz.func112, c112⟩ <|
  all_cons ⟨_, Tryz.func113, c113⟩ <|
  all_cons ⟨_, Tryz.func118, c118⟩ <|
  all_cons ⟨_, Tryz.func119, c119⟩ <|
  all_cons ⟨_, Tryz.func120, c120⟩ <|
  all_cons ⟨_, Tryz.func124, c124⟩ <|
  all_cons ⟨_, Tryz.func125, c125⟩ <|
  all_cons ⟨_, Tryz.func126, c126⟩ <|
  all_cons ⟨_, Tryz.func128, c128⟩ <|
  all_cons ⟨_, Tryz.func133, c133⟩ <|
  all_cons ⟨_, Tryz.func135, c135⟩ <|
  all_cons ⟨_, Tryz.func139, c139⟩ <|
  all_cons ⟨_, Tryz.func144, c144⟩ <|
  all_cons ⟨_, Tryz.func145, c145⟩ <|
  all_cons ⟨_, Tryz.func148, c148⟩ <|
  all_cons ⟨_, Tryz.func149, c149⟩ <|
  all_cons ⟨_, Tryz.func150, c150⟩ <|
  all_cons ⟨_, Tryz.func151, c151⟩ <|
  all_cons ⟨_, Tryz.func154, c154⟩ <|
  all_cons ⟨_, Tryz.func155, c155⟩ <|
  all_cons ⟨_, Tryz.func160, c160⟩ <|
  all_cons ⟨_, Tryz.func164, c164⟩ <|
  all_cons ⟨_, Tryz.func165, c165⟩ <|
  all_cons ⟨_, Tryz.func168, c168⟩ <|
  all_cons ⟨_, Tryz.func169, c169⟩ <|
  all_cons ⟨_, Tryz.func170, c170⟩ <|
  all_cons ⟨_, Tryz.func171, c171⟩ <|
  all_cons ⟨_, Tryz.func172, c172⟩ <|
  all_cons ⟨_, Tryz.func173, c173⟩ <|
  all_cons ⟨_, Tryz.func174, c174⟩ <|
  all_cons ⟨_, Tryz.func175, c175⟩ <|
  all_cons ⟨_, Tryz.func179, c179⟩ <|
  all_cons ⟨_, Tryz.func181, c181⟩ <|
  all_cons ⟨_, Tryz.func182, c182⟩ <|
  all_cons ⟨_, Tryz.func195, c195⟩ <|
  all_cons ⟨_, Tryz.func196, c196⟩ <|
  all_cons ⟨_, Tryz.func197, c197⟩ <|
  all_cons ⟨_, Tryz.func198, c198⟩ <|
  all_cons ⟨_, Tryz.func201, c201⟩ <|
  all_cons ⟨_, Tryz.func206, c206⟩ <|
  all_cons ⟨_, Tryz.func208, c208⟩ <|
  all_cons ⟨_, Tryz.func209, c209⟩ <|
  all_cons ⟨_, Tryz.func213, c213⟩ <|
  all_cons ⟨_, Tryz.func215, c215⟩ <|
  all_cons ⟨_, Tryz.func216, c216⟩ <|
  all_cons ⟨_, Tryz.func217, c217⟩ <|
  all_cons ⟨_, Tryz.func220, c220⟩ <|
  all_cons ⟨_, Tryz.func236, c236⟩ <|
  all_cons ⟨_, Tryz.func237, c237⟩ <|
  all_cons ⟨_, Tryz.func243, c243⟩ <|
  all_cons ⟨_, Tryz.func245, c245⟩ <|
  all_cons ⟨_, Tryz.func247, c247⟩ <|
  all_cons ⟨_, Tryz.func248, c248⟩ <|
  all_cons ⟨_, Tryz.func249, c249⟩ <|
  all_cons ⟨_, Tryz.func250, c250⟩ <|
  all_cons ⟨_, Tryz.func262, c262⟩ <|
  all_cons ⟨_, Tryz.func263, c263⟩ <|
  all_cons ⟨_, Tryz.func281, c281⟩ <|
  all_cons ⟨_, Tryz.func282, c282⟩ <|
  all_cons ⟨_, Tryz.func285, c285⟩ <|
  all_cons ⟨_, Tryz.func286, c286⟩ <|
  all_cons ⟨_, Tryz.func287, c287⟩ <|
  all_cons ⟨_, Tryz.func288, c288⟩ <|
  all_cons ⟨_, Tryz.func289, c289⟩ <|
  all_cons ⟨_, Tryz.func290, c290⟩ <|
  all_cons ⟨_, Tryz.func291, c291⟩ <|
  all_cons ⟨_, Tryz.func292, c292⟩ <|
  all_cons ⟨_, Tryz.func293, c293⟩ <|
  all_cons ⟨_, Tryz.func295, c295⟩ <|
  all_cons ⟨_, Tryz.func298, c298⟩ <|
  all_cons ⟨_, Tryz.func299, c299⟩ <|
  all_cons ⟨_, Tryz.func300, c300⟩ <|
  all_cons ⟨_, Tryz.func302, c302⟩ <|
  all_cons ⟨_, Tryz.func303, c303⟩ <|
  all_cons ⟨_, Tryz.func305, c305⟩ <|
  all_cons ⟨_, Tryz.func306, c306⟩ <|
  all_cons ⟨_, Tryz.func307, c307⟩ <|
  all_cons ⟨_, Tryz.func308, c308⟩ <|
  all_cons ⟨_, Tryz.func309, c309⟩ <|
  all_cons ⟨_, Tryz.func310, c310⟩ <|
  all_nil
theorem meths_all : ∀ p ∈ meths, ∀ v w, (method (Tryz.prog.types.size + Made.depth) p.1.1 v p.1.2).run Tryz.prog w = .ok (p.2, v) w :=
  all_cons (fun v w => by kernel_rfl) <|
  all_cons (fun v w => by kernel_rfl) <|
  all_cons (fun v w => by kernel_rfl) <|
  all_cons (fun v w => by kernel_rfl) <|
  all_cons (fun v w => by kernel_rfl) <|
  all_cons (fun v w => by kernel_rfl) <|
  all_cons (fun v w => by kernel_rfl) <|
  all_cons (fun v w => by kernel_rfl) <|
  all_cons (fun v w => by kernel_rfl) <|
  all_cons (fun v w => by kernel_rfl) <|
  all_cons (fun v w => by kernel_rfl) <|
  all_cons (fun v w => by kernel_rfl) <|
  all_cons (fun v w => by kernel_rfl) <|
  all_nil
theorem tbl_eq : treeOf fns = tbl := by kernel_rfl
end Go.Proofs.YtgoplodcgpfneaaGreatDoor.Run
