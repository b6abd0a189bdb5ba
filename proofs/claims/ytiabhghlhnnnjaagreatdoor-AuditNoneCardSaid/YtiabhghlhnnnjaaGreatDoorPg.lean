/-
  THE PROGRAM'S FUNCTIONS AS THE EVALUATOR SEES THEM. Printed by pgx.py.
-/
import Derived.Test.YtiabhghlhnnnjaaGreatDoorJd
import Derived.KernelRfl
set_option maxRecDepth 100000
noncomputable section
namespace Go.Proofs.YtiabhghlhnnnjaaGreatDoor.Ev
open Go Sh Sl
noncomputable def fns0 : List (Nat × Func) := [(3, Tryz.f3), (4, Tryz.f4), (5, Tryz.f5), (6, Tryz.f6), (7, Tryz.f7), (8, Tryz.f8), (9, Tryz.f9), (10, Tryz.f10), (11, Tryz.f11), (12, Tryz.f12), (13, Tryz.f13), (14, Tryz.f14), (15, Tryz.f15), (16, Tryz.f16), (17, Tryz.f17), (18, Tryz.f18), (19, Tryz.f19), (20, Tryz.f20), (21, Tryz.f21), (22, Tryz.f22), (23, Tryz.f23), (24, Tryz.f24), (25, Tryz.f25), (26, Tryz.f26), (27, Tryz.f27), (28, Tryz.f28), (29, Tryz.f29), (30, Tryz.f30), (31, Tryz.f31)]
noncomputable def fns1 : List (Nat × Func) := [(32, Tryz.f32), (33, Tryz.f33), (34, Tryz.f34), (35, Tryz.f35), (36, Tryz.f36), (37, Tryz.f37), (38, Tryz.f38), (39, Tryz.f39), (40, Tryz.f40), (41, Tryz.f41), (42, Tryz.f42), (43, Tryz.f43), (44, Tryz.f44), (45, Tryz.f45), (46, Tryz.f46), (47, Tryz.f47), (48, Tryz.f48), (49, Tryz.f49), (50, Tryz.f50), (51, Tryz.f51), (52, Tryz.f52), (53, Tryz.f53), (54, Tryz.f54), (55, Tryz.f55), (56, Tryz.f56), (57, Tryz.f57), (58, Tryz.f58), (59, Tryz.f59), (60, Tryz.f60), (61, Tryz.f61), (62, Tryz.f62), (63, Tryz.f63)]
noncomputable def fns2 : List (Nat × Func) := [(64, Tryz.f64), (65, Tryz.f65), (66, Tryz.f66), (67, Tryz.f67), (68, Tryz.f68), (69, Tryz.f69), (70, Tryz.f70), (71, Tryz.f71), (72, Tryz.f72), (73, Tryz.f73), (74, Tryz.f74), (75, Tryz.f75), (76, Tryz.f76), (77, Tryz.f77), (78, Tryz.f78), (79, Tryz.f79), (80, Tryz.f80), (81, Tryz.f81), (82, Tryz.f82), (83, Tryz.f83), (84, Tryz.f84), (85, Tryz.f85), (86, Tryz.f86), (87, Tryz.f87), (88, Tryz.f88), (89, Tryz.f89), (90, Tryz.f90), (91, Tryz.f91), (92, Tryz.f92), (93, Tryz.f93), (94, Tryz.f94), (95, Tryz.f95)]
noncomputable def fns3 : List (Nat × Func) := [(96, Tryz.f96), (97, Tryz.f97), (98, Tryz.f98), (99, Tryz.f99), (100, Tryz.f100), (101, Tryz.f101), (102, Tryz.f102), (103, Tryz.f103), (104, Tryz.f104), (105, Tryz.f105), (106, Tryz.f106), (107, Tryz.f107), (108, Tryz.f108), (109, Tryz.f109), (110, Tryz.f110), (111, Tryz.f111), (112, Tryz.f112), (113, Tryz.f113), (114, Tryz.f114), (115, Tryz.f115), (116, Tryz.f116), (117, Tryz.f117), (118, Tryz.f118), (119, Tryz.f119), (120, Tryz.f120), (121, Tryz.f121), (122, Tryz.f122), (123, Tryz.f123), (124, Tryz.f124), (125, Tryz.f125), (126, Tryz.f126), (127, Tryz.f127)]
noncomputable def fns4 : List (Nat × Func) := [(128, Tryz.f128), (129, Tryz.f129), (130, Tryz.f130), (131, Tryz.f131), (132, Tryz.f132), (133, Tryz.f133), (134, Tryz.f134), (135, Tryz.f135), (136, Tryz.f136), (137, Tryz.f137), (138, Tryz.f138), (139, Tryz.f139), (140, Tryz.f140), (141, Tryz.f141), (142, Tryz.f142), (143, Tryz.f143), (144, Tryz.f144), (145, Tryz.f145), (146, Tryz.f146), (147, Tryz.f147), (148, Tryz.f148), (149, Tryz.f149), (150, Tryz.f150), (151, Tryz.f151), (152, Tryz.f152), (153, Tryz.f153), (154, Tryz.f154), (155, Tryz.f155), (156, Tryz.f156), (158, Tryz.f158), (159, Tryz.f159)]
noncomputable def fns5 : List (Nat × Func) := [(160, Tryz.f160), (161, Tryz.f161), (162, Tryz.f162), (163, Tryz.f163), (164, Tryz.f164), (165, Tryz.f165), (166, Tryz.f166), (167, Tryz.f167), (168, Tryz.f168), (169, Tryz.f169), (170, Tryz.f170), (171, Tryz.f171), (172, Tryz.f172), (173, Tryz.f173), (174, Tryz.f174), (175, Tryz.f175), (176, Tryz.f176), (177, Tryz.f177), (178, Tryz.f178), (179, Tryz.f179), (180, Tryz.f180), (181, Tryz.f181), (182, Tryz.f182), (183, Tryz.f183), (184, Tryz.f184), (185, Tryz.f185), (186, Tryz.f186), (187, Tryz.f187), (188, Tryz.f188), (189, Tryz.f189), (190, Tryz.f190), (191, Tryz.f191)]
noncomputable def fns6 : List (Nat × Func) := [(192, Tryz.f192), (193, Tryz.f193), (194, Tryz.f194), (195, Tryz.f195), (196, Tryz.f196), (197, Tryz.f197), (198, Tryz.f198), (199, Tryz.f199), (200, Tryz.f200), (201, Tryz.f201), (202, Tryz.f202), (203, Tryz.f203), (204, Tryz.f204), (205, Tryz.f205), (206, Tryz.f206), (207, Tryz.f207), (208, Tryz.f208), (209, Tryz.f209), (210, Tryz.f210), (211, Tryz.f211), (212, Tryz.f212), (213, Tryz.f213), (214, Tryz.f214), (215, Tryz.f215), (216, Tryz.f216), (217, Tryz.f217), (218, Tryz.f218), (219, Tryz.f219), (220, Tryz.f220), (221, Tryz.f221), (222, Tryz.f222), (223, Tryz.f223)]
noncomputable def fns7 : List (Nat × Func) := [(224, Tryz.f224), (225, Tryz.f225), (226, Tryz.f226), (227, Tryz.f227), (228, Tryz.f228), (229, Tryz.f229), (230, Tryz.f230), (231, Tryz.f231), (232, Tryz.f232), (233, Tryz.f233), (234, Tryz.f234), (235, Tryz.f235), (236, Tryz.f236), (237, Tryz.f237), (238, Tryz.f238), (239, Tryz.f239), (240, Tryz.f240), (241, Tryz.f241), (242, Tryz.f242), (243, Tryz.f243), (244, Tryz.f244), (245, Tryz.f245), (246, Tryz.f246), (247, Tryz.f247), (248, Tryz.f248), (249, Tryz.f249), (250, Tryz.f250), (251, Tryz.f251), (252, Tryz.f252), (253, Tryz.f253), (254, Tryz.f254)]
noncomputable def fns8 : List (Nat × Func) := [(256, Tryz.f256), (257, Tryz.f257), (258, Tryz.f258), (259, Tryz.f259), (260, Tryz.f260), (261, Tryz.f261), (262, Tryz.f262), (263, Tryz.f263), (264, Tryz.f264), (265, Tryz.f265), (266, Tryz.f266), (267, Tryz.f267), (268, Tryz.f268), (269, Tryz.f269), (270, Tryz.f270), (271, Tryz.f271), (272, Tryz.f272), (273, Tryz.f273), (274, Tryz.f274), (275, Tryz.f275), (276, Tryz.f276), (277, Tryz.f277), (278, Tryz.f278), (279, Tryz.f279), (280, Tryz.f280), (281, Tryz.f281), (282, Tryz.f282), (283, Tryz.f283), (284, Tryz.f284), (285, Tryz.f285), (286, Tryz.f286), (287, Tryz.f287)]
noncomputable def fns9 : List (Nat × Func) := [(288, Tryz.f288), (289, Tryz.f289), (290, Tryz.f290), (291, Tryz.f291), (292, Tryz.f292), (293, Tryz.f293), (294, Tryz.f294), (295, Tryz.f295), (296, Tryz.f296), (297, Tryz.f297), (298, Tryz.f298), (299, Tryz.f299), (300, Tryz.f300), (301, Tryz.f301), (302, Tryz.f302), (303, Tryz.f303), (304, Tryz.f304), (305, Tryz.f305), (306, Tryz.f306), (307, Tryz.f307), (308, Tryz.f308), (309, Tryz.f309), (310, Tryz.f310), (311, Tryz.f311), (312, Tryz.f312), (313, Tryz.f313), (314, Tryz.f314), (315, Tryz.f315), (316, Tryz.f316), (317, Tryz.f317), (318, Tryz.f318), (319, Tryz.f319)]
noncomputable def fns10 : List (Nat × Func) := [(320, Tryz.f320), (321, Tryz.f321), (322, Tryz.f322), (323, Tryz.f323), (324, Tryz.f324), (325, Tryz.f325), (326, Tryz.f326), (327, Tryz.f327), (328, Tryz.f328), (329, Tryz.f329), (330, Tryz.f330), (331, Tryz.f331), (332, Tryz.f332), (333, Tryz.f333), (334, Tryz.f334), (335, Tryz.f335), (336, Tryz.f336), (337, Tryz.f337), (338, Tryz.f338), (339, Tryz.f339), (340, Tryz.f340), (341, Tryz.f341), (342, Tryz.f342), (343, Tryz.f343), (344, Tryz.f344), (345, Tryz.f345), (346, Tryz.f346), (347, Tryz.f347), (348, Tryz.f348), (349, Tryz.f349), (350, Tryz.f350), (351, Tryz.f351)]
noncomputable def fns11 : List (Nat × Func) := [(352, Tryz.f352), (353, Tryz.f353), (354, Tryz.f354), (355, Tryz.f355), (356, Tryz.f356), (357, Tryz.f357), (358, Tryz.f358), (359, Tryz.f359), (360, Tryz.f360), (361, Tryz.f361), (362, Tryz.f362), (363, Tryz.f363), (364, Tryz.f364), (365, Tryz.f365), (366, Tryz.f366), (367, Tryz.f367), (368, Tryz.f368), (369, Tryz.f369), (370, Tryz.f370), (371, Tryz.f371), (372, Tryz.f372), (373, Tryz.f373), (374, Tryz.f374), (375, Tryz.f375), (376, Tryz.f376), (377, Tryz.f377), (378, Tryz.f378), (379, Tryz.f379), (380, Tryz.f380), (381, Tryz.f381), (382, Tryz.f382), (383, Tryz.f383)]
noncomputable def fns12 : List (Nat × Func) := [(384, Tryz.f384), (385, Tryz.f385), (386, Tryz.f386), (387, Tryz.f387), (388, Tryz.f388), (389, Tryz.f389), (390, Tryz.f390), (391, Tryz.f391), (392, Tryz.f392), (393, Tryz.f393), (394, Tryz.f394), (395, Tryz.f395), (396, Tryz.f396), (397, Tryz.f397), (398, Tryz.f398), (399, Tryz.f399), (400, Tryz.f400), (401, Tryz.f401), (402, Tryz.f402), (403, Tryz.f403), (404, Tryz.f404), (405, Tryz.f405), (406, Tryz.f406), (407, Tryz.f407), (408, Tryz.f408), (409, Tryz.f409), (410, Tryz.f410), (411, Tryz.f411), (412, Tryz.f412), (413, Tryz.f413), (414, Tryz.f414), (415, Tryz.f415)]
noncomputable def fns13 : List (Nat × Func) := [(416, Tryz.f416), (417, Tryz.f417), (418, Tryz.f418), (419, Tryz.f419), (420, Tryz.f420), (421, Tryz.f421), (422, Tryz.f422), (423, Tryz.f423), (425, Tryz.f425), (426, Tryz.f426), (427, Tryz.f427), (428, Tryz.f428), (429, Tryz.f429), (430, Tryz.f430), (431, Tryz.f431), (432, Tryz.f432), (433, Tryz.f433), (434, Tryz.f434), (435, Tryz.f435), (436, Tryz.f436), (437, Tryz.f437), (438, Tryz.f438), (439, Tryz.f439), (440, Tryz.f440), (441, Tryz.f441), (442, Tryz.f442), (443, Tryz.f443), (444, Tryz.f444), (445, Tryz.f445), (446, Tryz.f446), (447, Tryz.f447)]
noncomputable def fns14 : List (Nat × Func) := [(448, Tryz.f448), (449, Tryz.f449), (450, Tryz.f450), (451, Tryz.f451), (452, Tryz.f452), (453, Tryz.f453), (454, Tryz.f454), (455, Tryz.f455), (456, Tryz.f456), (457, Tryz.f457), (458, Tryz.f458), (459, Tryz.f459), (460, Tryz.f460), (461, Tryz.f461), (462, Tryz.f462), (463, Tryz.f463), (464, Tryz.f464), (465, Tryz.f465), (466, Tryz.f466), (467, Tryz.f467), (468, Tryz.f468), (469, Tryz.f469), (471, Tryz.f471), (472, Tryz.f472), (473, Tryz.f473), (474, Tryz.f474), (475, Tryz.f475), (476, Tryz.f476), (477, Tryz.f477), (478, Tryz.f478), (479, Tryz.f479)]
noncomputable def fns15 : List (Nat × Func) := [(480, Tryz.f480), (481, Tryz.f481), (482, Tryz.f482), (483, Tryz.f483), (484, Tryz.f484), (485, Tryz.f485), (486, Tryz.f486), (487, Tryz.f487), (488, Tryz.f488), (489, Tryz.f489), (490, Tryz.f490), (491, Tryz.f491), (492, Tryz.f492), (493, Tryz.f493), (494, Tryz.f494), (495, Tryz.f495), (496, Tryz.f496), (497, Tryz.f497), (498, Tryz.f498), (499, Tryz.f499), (502, Tryz.f502), (503, Tryz.f503), (504, Tryz.f504), (505, Tryz.f505), (506, Tryz.f506), (507, Tryz.f507), (508, Tryz.f508), (509, Tryz.f509), (510, Tryz.f510), (511, Tryz.f511)]
noncomputable def fns16 : List (Nat × Func) := [(512, Tryz.f512), (513, Tryz.f513), (514, Tryz.f514), (515, Tryz.f515), (516, Tryz.f516)]
noncomputable def fns17 : List (Nat × Func) := [(548, Tryz.f548)]
noncomputable def fnss : List (List (Nat × Func)) := [fns0, fns1, fns2, fns3, fns4, fns5, fns6, fns7, fns8, fns9, fns10, fns11, fns12, fns13, fns14, fns15, fns16, fns17]
noncomputable def fe (f : Func) : Option Fe := f.body.map fun c => .mk f.ntmps f.results.toList c
noncomputable def ftab (n : Nat) : Option Fe := (lookTI (nthL fnss (n / 32)) n).bind fe
theorem fns_eq : fnss.map (fun l => l.map fun p => P.funcs[p.1]?) = fnss.map (fun l => l.map fun p => some p.2) := by kernel_rfl
theorem fns_call : (fnss.all fun l => l.all fun p => callable P p.1) = true := by kernel_rfl
theorem fns_mixed : P.follows .mixedOrders = true := by kernel_rfl
theorem lookTI_mem {α : Type} : ∀ {l : List (Nat × α)} {n : Nat} {x : α}, lookTI l n = some x → (n, x) ∈ l
  | [], n, x, h => by cases h
  | (m, y) :: l, n, x, h => by
    unfold lookTI at h
    split at h
    · rename_i hb
      cases h
      rw [Nat.eq_of_beq_eq_true hb]; exact List.mem_cons_self
    · exact List.mem_cons_of_mem _ (lookTI_mem h)
theorem nthL_mem {α : Type} : ∀ {L : List (List α)} {n : Nat} {x : α}, x ∈ nthL L n → ∃ l ∈ L, x ∈ l
  | [], n, x, h => by unfold nthL at h; cases h
  | l :: L, 0, x, h => ⟨l, List.mem_cons_self, h⟩
  | l :: L, n + 1, x, h => by
    obtain ⟨m, h1, h2⟩ := nthL_mem (L := L) (n := n) h
    exact ⟨m, List.mem_cons_of_mem _ h1, h2⟩
theorem ftab_ok {f n : Nat} {rs : List ResultVar} {c : Code} (h : ftab f = some (.mk n rs c)) : ∃ fn, P.funcs[f]? = some fn ∧ fn.body = some c ∧ fn.ntmps = n ∧ fn.results.toList = rs ∧ callable P f = true := by
  unfold ftab at h
  cases hl : lookTI (nthL fnss (f / 32)) f with
  | none => rw [hl] at h; cases h
  | some fn =>
    rw [hl] at h
    have h : fe fn = some (.mk n rs c) := h
    unfold fe at h
    cases hb : fn.body with
    | none => rw [hb] at h; cases h
    | some c' =>
      rw [hb] at h
      cases h
      obtain ⟨l, h1, h2⟩ := nthL_mem (lookTI_mem hl)
      refine ⟨fn, lookTI_ok (nthL_map (f := fun (p : Nat × Func) => P.funcs[p.1]?) (g := fun (p : Nat × Func) => some p.2) fnss (f / 32) fns_eq) hl, hb, rfl, rfl, ?_⟩
      exact List.all_eq_true.1 (List.all_eq_true.1 fns_call l h1) (f, fn) h2
end Go.Proofs.YtiabhghlhnnnjaaGreatDoor.Ev
