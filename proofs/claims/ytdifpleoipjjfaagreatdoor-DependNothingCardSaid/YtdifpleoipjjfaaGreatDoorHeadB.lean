/- The functions that the example of layer 49 reaches, the walks of three of the library, and the environment. -/
import Derived.Test.YtdifpleoipjjfaaGreatDoorHeadA
import Derived.Test.YtdifpleoipjjfaaGreatDoorReflEight
import Derived.Shelf.RegionOpenPlain
import Derived.Lib.Builder
import Derived.Lib.Walk
import Derived.WalkKit
import Derived.Laws.Externs
import Derived.Laws.BitsLemmas
import Derived.Lib.Strings
import Derived.Lib.UnsafeStr
import Derived.Lib.MakeNoZero
import Derived.Lib.Bytealg
namespace Go.Proofs.YtdifpleoipjjfaaGreatDoor
open Go Go.Refl
noncomputable def fnL0 : List (Nat × Func) := [(4, Tryz.f4), (6, Tryz.f6), (7, Tryz.f7), (8, Tryz.f8), (9, Tryz.f9), (10, Tryz.f10), (11, Tryz.f11), (16, Tryz.f16), (17, Tryz.f17), (18, Tryz.f18), (19, Tryz.f19), (20, Tryz.f20), (21, Tryz.f21), (22, Tryz.f22), (23, Tryz.f23), (24, Tryz.f24), (25, Tryz.f25), (26, Tryz.f26), (27, Tryz.f27), (28, Tryz.f28), (29, Tryz.f29), (30, Tryz.f30), (31, Tryz.f31), (32, Tryz.f32), (33, Tryz.f33), (34, Tryz.f34), (35, Tryz.f35), (36, Tryz.f36), (38, Tryz.f38), (43, Tryz.f43), (44, Tryz.f44), (45, Tryz.f45), (46, Tryz.f46), (47, Tryz.f47), (48, Tryz.f48), (49, Tryz.f49), (50, Tryz.f50), (51, Tryz.f51), (52, Tryz.f52), (59, Tryz.f59), (60, Tryz.f60), (61, Tryz.f61), (62, Tryz.f62), (63, Tryz.f63), (68, Tryz.f68), (69, Tryz.f69), (70, Tryz.f70), (71, Tryz.f71), (72, Tryz.f72), (73, Tryz.f73)]
theorem fnL0_ok : AllOf (FnOk Tryz.prog) fnL0 :=
  .cons ⟨Tryz.func4, by kernel_rfl⟩ <|
  .cons ⟨Tryz.func6, by kernel_rfl⟩ <|
  .cons ⟨Tryz.func7, by kernel_rfl⟩ <|
  .cons ⟨Tryz.func8, by kernel_rfl⟩ <|
  .cons ⟨Tryz.func9, by kernel_rfl⟩ <|
  .cons ⟨Tryz.func10, by kernel_rfl⟩ <|
  .cons ⟨Tryz.func11, by kernel_rfl⟩ <|
  .cons ⟨Tryz.func16, by kernel_rfl⟩ <|
  .cons ⟨Tryz.func17, by kernel_rfl⟩ <|
  .cons ⟨Tryz.func18, by kernel_rfl⟩ <|
  .cons ⟨Tryz.func19, by kernel_rfl⟩ <|
  .cons ⟨Tryz.func20, by kernel_rfl⟩ <|
  .cons ⟨Tryz.func21, by kernel_rfl⟩ <|
  .cons ⟨Tryz.func22, by kernel_rfl⟩ <|
  .cons ⟨Tryz.func23, by kernel_rfl⟩ <|
  .cons ⟨Tryz.func24, by kernel_rfl⟩ <|
  .cons ⟨Tryz.func25, by kernel_rfl⟩ <|
  .cons ⟨Tryz.func26, by kernel_rfl⟩ <|
  .cons ⟨Tryz.func27, by kernel_rfl⟩ <|
  .cons ⟨Tryz.func28, by kernel_rfl⟩ <|
  .cons ⟨Tryz.func29, by kernel_rfl⟩ <|
  .cons ⟨Tryz.func30, by kernel_rfl⟩ <|
  .cons ⟨Tryz.func31, by kernel_rfl⟩ <|
  .cons ⟨Tryz.func32, by kernel_rfl⟩ <|
  .cons ⟨Tryz.func33, by kernel_rfl⟩ <|
  .cons ⟨Tryz.func34, by kernel_rfl⟩ <|
  .cons ⟨Tryz.func35, by kernel_rfl⟩ <|
  .cons ⟨Tryz.func36, by kernel_rfl⟩ <|
  .cons ⟨Tryz.func38, by kernel_rfl⟩ <|
  .cons ⟨Tryz.func43, by kernel_rfl⟩ <|
  .cons ⟨Tryz.func44, by kernel_rfl⟩ <|
  .cons ⟨Tryz.func45, by kernel_rfl⟩ <|
  .cons ⟨Tryz.func46, by kernel_rfl⟩ <|
  .cons ⟨Tryz.func47, by kernel_rfl⟩ <|
  .cons ⟨Tryz.func48, by kernel_rfl⟩ <|
  .cons ⟨Tryz.func49, by kernel_rfl⟩ <|
  .cons ⟨Tryz.func50, by kernel_rfl⟩ <|
  .cons ⟨Tryz.func51, by kernel_rfl⟩ <|
  .cons ⟨Tryz.func52, by kernel_rfl⟩ <|
  .cons ⟨Tryz.func59, by kernel_rfl⟩ <|
  .cons ⟨Tryz.func60, by kernel_rfl⟩ <|
  .cons ⟨Tryz.func61, by kernel_rfl⟩ <|
  .cons ⟨Tryz.func62, by kernel_rfl⟩ <|
  .cons ⟨Tryz.func63, by kernel_rfl⟩ <|
  .cons ⟨Tryz.func68, by kernel_rfl⟩ <|
  .cons ⟨Tryz.func69, by kernel_rfl⟩ <|
  .cons ⟨Tryz.func70, by kernel_rfl⟩ <|
  .cons ⟨Tryz.func71, by kernel_rfl⟩ <|
  .cons ⟨Tryz.func72, by kernel_rfl⟩ <|
  .cons ⟨Tryz.func73, by kernel_rfl⟩ <|
  .nil
noncomputable def fnL1 : List (Nat × Func) := [(74, Tryz.f74), (75, Tryz.f75), (76, Tryz.f76), (83, Tryz.f83), (84, Tryz.f84), (85, Tryz.f85), (86, Tryz.f86), (87, Tryz.f87), (90, Tryz.f90), (91, Tryz.f91), (92, Tryz.f92), (94, Tryz.f94), (95, Tryz.f95), (96, Tryz.f96), (97, Tryz.f97), (98, Tryz.f98), (99, Tryz.f99), (100, Tryz.f100), (101, Tryz.f101), (102, Tryz.f102), (103, Tryz.f103), (104, Tryz.f104), (105, Tryz.f105), (106, Tryz.f106), (107, Tryz.f107), (108, Tryz.f108), (109, Tryz.f109), (110, Tryz.f110), (111, Tryz.f111), (112, Tryz.f112), (113, Tryz.f113), (114, Tryz.f114), (115, Tryz.f115), (116, Tryz.f116), (117, Tryz.f117), (118, Tryz.f118), (119, Tryz.f119), (120, Tryz.f120), (121, Tryz.f121), (122, Tryz.f122), (123, Tryz.f123), (124, Tryz.f124), (125, Tryz.f125), (126, Tryz.f126), (127, Tryz.f127), (128, Tryz.f128), (129, Tryz.f129), (144, Tryz.f144), (145, Tryz.f145), (146, Tryz.f146)]
theorem fnL1_ok : AllOf (FnOk Tryz.prog) fnL1 :=
  .cons ⟨Tryz.func74, by kernel_rfl⟩ <|
  .cons ⟨Tryz.func75, by kernel_rfl⟩ <|
  .cons ⟨Tryz.func76, by kernel_rfl⟩ <|
  .cons ⟨Tryz.func83, by kernel_rfl⟩ <|
  .cons ⟨Tryz.func84, by kernel_rfl⟩ <|
  .cons ⟨Tryz.func85, by kernel_rfl⟩ <|
  .cons ⟨Tryz.func86, by kernel_rfl⟩ <|
  .cons ⟨Tryz.func87, by kernel_rfl⟩ <|
  .cons ⟨Tryz.func90, by kernel_rfl⟩ <|
  .cons ⟨Tryz.func91, by kernel_rfl⟩ <|
  .cons ⟨Tryz.func92, by kernel_rfl⟩ <|
  .cons ⟨Tryz.func94, by kernel_rfl⟩ <|
  .cons ⟨Tryz.func95, by kernel_rfl⟩ <|
  .cons ⟨Tryz.func96, by kernel_rfl⟩ <|
  .cons ⟨Tryz.func97, by kernel_rfl⟩ <|
  .cons ⟨Tryz.func98, by kernel_rfl⟩ <|
  .cons ⟨Tryz.func99, by kernel_rfl⟩ <|
  .cons ⟨Tryz.func100, by kernel_rfl⟩ <|
  .cons ⟨Tryz.func101, by kernel_rfl⟩ <|
  .cons ⟨Tryz.func102, by kernel_rfl⟩ <|
  .cons ⟨Tryz.func103, by kernel_rfl⟩ <|
  .cons ⟨Tryz.func104, by kernel_rfl⟩ <|
  .cons ⟨Tryz.func105, by kernel_rfl⟩ <|
  .cons ⟨Tryz.func106, by kernel_rfl⟩ <|
  .cons ⟨Tryz.func107, by kernel_rfl⟩ <|
  .cons ⟨Tryz.func108, by kernel_rfl⟩ <|
  .cons ⟨Tryz.func109, by kernel_rfl⟩ <|
  .cons ⟨Tryz.func110, by kernel_rfl⟩ <|
  .cons ⟨Tryz.func111, by kernel_rfl⟩ <|
  .cons ⟨Tryz.func112, by kernel_rfl⟩ <|
  .cons ⟨Tryz.func113, by kernel_rfl⟩ <|
  .cons ⟨Tryz.func114, by kernel_rfl⟩ <|
  .cons ⟨Tryz.func115, by kernel_rfl⟩ <|
  .cons ⟨Tryz.func116, by kernel_rfl⟩ <|
  .cons ⟨Tryz.func117, by kernel_rfl⟩ <|
  .cons ⟨Tryz.func118, by kernel_rfl⟩ <|
  .cons ⟨Tryz.func119, by kernel_rfl⟩ <|
  .cons ⟨Tryz.func120, by kernel_rfl⟩ <|
  .cons ⟨Tryz.func121, by kernel_rfl⟩ <|
  .cons ⟨Tryz.func122, by kernel_rfl⟩ <|
  .cons ⟨Tryz.func123, by kernel_rfl⟩ <|
  .cons ⟨Tryz.func124, by kernel_rfl⟩ <|
  .cons ⟨Tryz.func125, by kernel_rfl⟩ <|
  .cons ⟨Tryz.func126, by kernel_rfl⟩ <|
  .cons ⟨Tryz.func127, by kernel_rfl⟩ <|
  .cons ⟨Tryz.func128, by kernel_rfl⟩ <|
  .cons ⟨Tryz.func129, by kernel_rfl⟩ <|
  .cons ⟨Tryz.func144, by kernel_rfl⟩ <|
  .cons ⟨Tryz.func145, by kernel_rfl⟩ <|
  .cons ⟨Tryz.func146, by kernel_rfl⟩ <|
  .nil
noncomputable def fnL2 : List (Nat × Func) := [(148, Tryz.f148), (149, Tryz.f149), (152, Tryz.f152), (153, Tryz.f153), (155, Tryz.f155), (156, Tryz.f156), (157, Tryz.f157), (158, Tryz.f158), (159, Tryz.f159), (160, Tryz.f160), (161, Tryz.f161), (162, Tryz.f162), (163, Tryz.f163), (180, Tryz.f180), (181, Tryz.f181), (186, Tryz.f186), (187, Tryz.f187), (189, Tryz.f189), (194, Tryz.f194), (195, Tryz.f195), (196, Tryz.f196), (197, Tryz.f197), (198, Tryz.f198), (199, Tryz.f199), (200, Tryz.f200), (201, Tryz.f201), (202, Tryz.f202), (203, Tryz.f203), (204, Tryz.f204), (205, Tryz.f205), (206, Tryz.f206), (208, Tryz.f208), (209, Tryz.f209), (210, Tryz.f210), (211, Tryz.f211), (212, Tryz.f212), (213, Tryz.f213), (214, Tryz.f214), (215, Tryz.f215), (216, Tryz.f216), (217, Tryz.f217), (218, Tryz.f218), (219, Tryz.f219), (220, Tryz.f220), (222, Tryz.f222), (223, Tryz.f223), (224, Tryz.f224), (225, Tryz.f225), (226, Tryz.f226), (227, Tryz.f227)]
theorem fnL2_ok : AllOf (FnOk Tryz.prog) fnL2 :=
  .cons ⟨Tryz.func148, by kernel_rfl⟩ <|
  .cons ⟨Tryz.func149, by kernel_rfl⟩ <|
  .cons ⟨Tryz.func152, by kernel_rfl⟩ <|
  .cons ⟨Tryz.func153, by kernel_rfl⟩ <|
  .cons ⟨Tryz.func155, by kernel_rfl⟩ <|
  .cons ⟨Tryz.func156, by kernel_rfl⟩ <|
  .cons ⟨Tryz.func157, by kernel_rfl⟩ <|
  .cons ⟨Tryz.func158, by kernel_rfl⟩ <|
  .cons ⟨Tryz.func159, by kernel_rfl⟩ <|
  .cons ⟨Tryz.func160, by kernel_rfl⟩ <|
  .cons ⟨Tryz.func161, by kernel_rfl⟩ <|
  .cons ⟨Tryz.func162, by kernel_rfl⟩ <|
  .cons ⟨Tryz.func163, by kernel_rfl⟩ <|
  .cons ⟨Tryz.func180, by kernel_rfl⟩ <|
  .cons ⟨Tryz.func181, by kernel_rfl⟩ <|
  .cons ⟨Tryz.func186, by kernel_rfl⟩ <|
  .cons ⟨Tryz.func187, by kernel_rfl⟩ <|
  .cons ⟨Tryz.func189, by kernel_rfl⟩ <|
  .cons ⟨Tryz.func194, by kernel_rfl⟩ <|
  .cons ⟨Tryz.func195, by kernel_rfl⟩ <|
  .cons ⟨Tryz.func196, by kernel_rfl⟩ <|
  .cons ⟨Tryz.func197, by kernel_rfl⟩ <|
  .cons ⟨Tryz.func198, by kernel_rfl⟩ <|
  .cons ⟨Tryz.func199, by kernel_rfl⟩ <|
  .cons ⟨Tryz.func200, by kernel_rfl⟩ <|
  .cons ⟨Tryz.func201, by kernel_rfl⟩ <|
  .cons ⟨Tryz.func202, by kernel_rfl⟩ <|
  .cons ⟨Tryz.func203, by kernel_rfl⟩ <|
  .cons ⟨Tryz.func204, by kernel_rfl⟩ <|
  .cons ⟨Tryz.func205, by kernel_rfl⟩ <|
  .cons ⟨Tryz.func206, by kernel_rfl⟩ <|
  .cons ⟨Tryz.func208, by kernel_rfl⟩ <|
  .cons ⟨Tryz.func209, by kernel_rfl⟩ <|
  .cons ⟨Tryz.func210, by kernel_rfl⟩ <|
  .cons ⟨Tryz.func211, by kernel_rfl⟩ <|
  .cons ⟨Tryz.func212, by kernel_rfl⟩ <|
  .cons ⟨Tryz.func213, by kernel_rfl⟩ <|
  .cons ⟨Tryz.func214, by kernel_rfl⟩ <|
  .cons ⟨Tryz.func215, by kernel_rfl⟩ <|
  .cons ⟨Tryz.func216, by kernel_rfl⟩ <|
  .cons ⟨Tryz.func217, by kernel_rfl⟩ <|
  .cons ⟨Tryz.func218, by kernel_rfl⟩ <|
  .cons ⟨Tryz.func219, by kernel_rfl⟩ <|
  .cons ⟨Tryz.func220, by kernel_rfl⟩ <|
  .cons ⟨Tryz.func222, by kernel_rfl⟩ <|
  .cons ⟨Tryz.func223, by kernel_rfl⟩ <|
  .cons ⟨Tryz.func224, by kernel_rfl⟩ <|
  .cons ⟨Tryz.func225, by kernel_rfl⟩ <|
  .cons ⟨Tryz.func226, by kernel_rfl⟩ <|
  .cons ⟨Tryz.func227, by kernel_rfl⟩ <|
  .nil
noncomputable def fnL3 : List (Nat × Func) := [(228, Tryz.f228), (230, Tryz.f230), (231, Tryz.f231), (232, Tryz.f232), (233, Tryz.f233), (234, Tryz.f234), (235, Tryz.f235), (236, Tryz.f236), (237, Tryz.f237), (238, Tryz.f238), (242, Tryz.f242), (243, Tryz.f243), (261, Tryz.f261), (263, Tryz.f263), (264, Tryz.f264), (266, Tryz.f266), (267, Tryz.f267), (268, Tryz.f268), (269, Tryz.f269), (270, Tryz.f270), (271, Tryz.f271), (272, Tryz.f272), (273, Tryz.f273), (274, Tryz.f274), (275, Tryz.f275), (276, Tryz.f276), (277, Tryz.f277), (278, Tryz.f278), (279, Tryz.f279), (280, Tryz.f280), (281, Tryz.f281), (282, Tryz.f282), (287, Tryz.f287), (306, Tryz.f306), (308, Tryz.f308), (318, Tryz.f318), (319, Tryz.f319), (320, Tryz.f320), (323, Tryz.f323), (324, Tryz.f324), (325, Tryz.f325), (326, Tryz.f326), (327, Tryz.f327), (328, Tryz.f328), (329, Tryz.f329), (330, Tryz.f330), (331, Tryz.f331), (332, Tryz.f332), (333, Tryz.f333), (336, Tryz.f336)]
theorem fnL3_ok : AllOf (FnOk Tryz.prog) fnL3 :=
  .cons ⟨Tryz.func228, by kernel_rfl⟩ <|
  .cons ⟨Tryz.func230, by kernel_rfl⟩ <|
  .cons ⟨Tryz.func231, by kernel_rfl⟩ <|
  .cons ⟨Tryz.func232, by kernel_rfl⟩ <|
  .cons ⟨Tryz.func233, by kernel_rfl⟩ <|
  .cons ⟨Tryz.func234, by kernel_rfl⟩ <|
  .cons ⟨Tryz.func235, by kernel_rfl⟩ <|
  .cons ⟨Tryz.func236, by kernel_rfl⟩ <|
  .cons ⟨Tryz.func237, by kernel_rfl⟩ <|
  .cons ⟨Tryz.func238, by kernel_rfl⟩ <|
  .cons ⟨Tryz.func242, by kernel_rfl⟩ <|
  .cons ⟨Tryz.func243, by kernel_rfl⟩ <|
  .cons ⟨Tryz.func261, by kernel_rfl⟩ <|
  .cons ⟨Tryz.func263, by kernel_rfl⟩ <|
  .cons ⟨Tryz.func264, by kernel_rfl⟩ <|
  .cons ⟨Tryz.func266, by kernel_rfl⟩ <|
  .cons ⟨Tryz.func267, by kernel_rfl⟩ <|
  .cons ⟨Tryz.func268, by kernel_rfl⟩ <|
  .cons ⟨Tryz.func269, by kernel_rfl⟩ <|
  .cons ⟨Tryz.func270, by kernel_rfl⟩ <|
  .cons ⟨Tryz.func271, by kernel_rfl⟩ <|
  .cons ⟨Tryz.func272, by kernel_rfl⟩ <|
  .cons ⟨Tryz.func273, by kernel_rfl⟩ <|
  .cons ⟨Tryz.func274, by kernel_rfl⟩ <|
  .cons ⟨Tryz.func275, by kernel_rfl⟩ <|
  .cons ⟨Tryz.func276, by kernel_rfl⟩ <|
  .cons ⟨Tryz.func277, by kernel_rfl⟩ <|
  .cons ⟨Tryz.func278, by kernel_rfl⟩ <|
  .cons ⟨Tryz.func279, by kernel_rfl⟩ <|
  .cons ⟨Tryz.func280, by kernel_rfl⟩ <|
  .cons ⟨Tryz.func281, by kernel_rfl⟩ <|
  .cons ⟨Tryz.func282, by kernel_rfl⟩ <|
  .cons ⟨Tryz.func287, by kernel_rfl⟩ <|
  .cons ⟨Tryz.func306, by kernel_rfl⟩ <|
  .cons ⟨Tryz.func308, by kernel_rfl⟩ <|
  .cons ⟨Tryz.func318, by kernel_rfl⟩ <|
  .cons ⟨Tryz.func319, by kernel_rfl⟩ <|
  .cons ⟨Tryz.func320, by kernel_rfl⟩ <|
  .cons ⟨Tryz.func323, by kernel_rfl⟩ <|
  .cons ⟨Tryz.func324, by kernel_rfl⟩ <|
  .cons ⟨Tryz.func325, by kernel_rfl⟩ <|
  .cons ⟨Tryz.func326, by kernel_rfl⟩ <|
  .cons ⟨Tryz.func327, by kernel_rfl⟩ <|
  .cons ⟨Tryz.func328, by kernel_rfl⟩ <|
  .cons ⟨Tryz.func329, by kernel_rfl⟩ <|
  .cons ⟨Tryz.func330, by kernel_rfl⟩ <|
  .cons ⟨Tryz.func331, by kernel_rfl⟩ <|
  .cons ⟨Tryz.func332, by kernel_rfl⟩ <|
  .cons ⟨Tryz.func333, by kernel_rfl⟩ <|
  .cons ⟨Tryz.func336, by kernel_rfl⟩ <|
  .nil
noncomputable def fnL4 : List (Nat × Func) := [(338, Tryz.f338), (340, Tryz.f340), (341, Tryz.f341), (342, Tryz.f342), (343, Tryz.f343), (347, Tryz.f347), (348, Tryz.f348), (349, Tryz.f349), (350, Tryz.f350), (351, Tryz.f351), (353, Tryz.f353), (355, Tryz.f355), (357, Tryz.f357), (362, Tryz.f362), (364, Tryz.f364), (365, Tryz.f365), (366, Tryz.f366), (367, Tryz.f367), (368, Tryz.f368), (369, Tryz.f369), (370, Tryz.f370), (371, Tryz.f371), (372, Tryz.f372), (373, Tryz.f373), (374, Tryz.f374), (375, Tryz.f375), (376, Tryz.f376), (377, Tryz.f377), (378, Tryz.f378), (379, Tryz.f379), (380, Tryz.f380), (381, Tryz.f381), (382, Tryz.f382), (383, Tryz.f383), (393, Tryz.f393), (394, Tryz.f394), (400, Tryz.f400), (404, Tryz.f404), (405, Tryz.f405), (408, Tryz.f408), (409, Tryz.f409), (410, Tryz.f410), (413, Tryz.f413), (414, Tryz.f414), (415, Tryz.f415), (416, Tryz.f416), (418, Tryz.f418), (419, Tryz.f419), (420, Tryz.f420), (421, Tryz.f421)]
theorem fnL4_ok : AllOf (FnOk Tryz.prog) fnL4 :=
  .cons ⟨Tryz.func338, by kernel_rfl⟩ <|
  .cons ⟨Tryz.func340, by kernel_rfl⟩ <|
  .cons ⟨Tryz.func341, by kernel_rfl⟩ <|
  .cons ⟨Tryz.func342, by kernel_rfl⟩ <|
  .cons ⟨Tryz.func343, by kernel_rfl⟩ <|
  .cons ⟨Tryz.func347, by kernel_rfl⟩ <|
  .cons ⟨Tryz.func348, by kernel_rfl⟩ <|
  .cons ⟨Tryz.func349, by kernel_rfl⟩ <|
  .cons ⟨Tryz.func350, by kernel_rfl⟩ <|
  .cons ⟨Tryz.func351, by kernel_rfl⟩ <|
  .cons ⟨Tryz.func353, by kernel_rfl⟩ <|
  .cons ⟨Tryz.func355, by kernel_rfl⟩ <|
  .cons ⟨Tryz.func357, by kernel_rfl⟩ <|
  .cons ⟨Tryz.func362, by kernel_rfl⟩ <|
  .cons ⟨Tryz.func364, by kernel_rfl⟩ <|
  .cons ⟨Tryz.func365, by kernel_rfl⟩ <|
  .cons ⟨Tryz.func366, by kernel_rfl⟩ <|
  .cons ⟨Tryz.func367, by kernel_rfl⟩ <|
  .cons ⟨Tryz.func368, by kernel_rfl⟩ <|
  .cons ⟨Tryz.func369, by kernel_rfl⟩ <|
  .cons ⟨Tryz.func370, by kernel_rfl⟩ <|
  .cons ⟨Tryz.func371, by kernel_rfl⟩ <|
  .cons ⟨Tryz.func372, by kernel_rfl⟩ <|
  .cons ⟨Tryz.func373, by kernel_rfl⟩ <|
  .cons ⟨Tryz.func374, by kernel_rfl⟩ <|
  .cons ⟨Tryz.func375, by kernel_rfl⟩ <|
  .cons ⟨Tryz.func376, by kernel_rfl⟩ <|
  .cons ⟨Tryz.func377, by kernel_rfl⟩ <|
  .cons ⟨Tryz.func378, by kernel_rfl⟩ <|
  .cons ⟨Tryz.func379, by kernel_rfl⟩ <|
  .cons ⟨Tryz.func380, by kernel_rfl⟩ <|
  .cons ⟨Tryz.func381, by kernel_rfl⟩ <|
  .cons ⟨Tryz.func382, by kernel_rfl⟩ <|
  .cons ⟨Tryz.func383, by kernel_rfl⟩ <|
  .cons ⟨Tryz.func393, by kernel_rfl⟩ <|
  .cons ⟨Tryz.func394, by kernel_rfl⟩ <|
  .cons ⟨Tryz.func400, by kernel_rfl⟩ <|
  .cons ⟨Tryz.func404, by kernel_rfl⟩ <|
  .cons ⟨Tryz.func405, by kernel_rfl⟩ <|
  .cons ⟨Tryz.func408, by kernel_rfl⟩ <|
  .cons ⟨Tryz.func409, by kernel_rfl⟩ <|
  .cons ⟨Tryz.func410, by kernel_rfl⟩ <|
  .cons ⟨Tryz.func413, by kernel_rfl⟩ <|
  .cons ⟨Tryz.func414, by kernel_rfl⟩ <|
  .cons ⟨Tryz.func415, by kernel_rfl⟩ <|
  .cons ⟨Tryz.func416, by kernel_rfl⟩ <|
  .cons ⟨Tryz.func418, by kernel_rfl⟩ <|
  .cons ⟨Tryz.func419, by kernel_rfl⟩ <|
  .cons ⟨Tryz.func420, by kernel_rfl⟩ <|
  .cons ⟨Tryz.func421, by kernel_rfl⟩ <|
  .nil
noncomputable def fnL5 : List (Nat × Func) := [(422, Tryz.f422), (423, Tryz.f423), (424, Tryz.f424), (425, Tryz.f425), (426, Tryz.f426), (427, Tryz.f427), (429, Tryz.f429), (435, Tryz.f435), (436, Tryz.f436), (437, Tryz.f437), (438, Tryz.f438), (447, Tryz.f447), (448, Tryz.f448), (449, Tryz.f449), (451, Tryz.f451), (452, Tryz.f452), (453, Tryz.f453), (454, Tryz.f454), (455, Tryz.f455), (456, Tryz.f456), (457, Tryz.f457), (458, Tryz.f458), (459, Tryz.f459), (460, Tryz.f460), (461, Tryz.f461), (462, Tryz.f462), (463, Tryz.f463), (464, Tryz.f464), (465, Tryz.f465), (466, Tryz.f466), (467, Tryz.f467), (473, Tryz.f473), (483, Tryz.f483), (484, Tryz.f484), (485, Tryz.f485), (487, Tryz.f487), (488, Tryz.f488), (489, Tryz.f489), (490, Tryz.f490), (493, Tryz.f493), (506, Tryz.f506), (507, Tryz.f507), (508, Tryz.f508), (509, Tryz.f509), (510, Tryz.f510), (511, Tryz.f511), (512, Tryz.f512), (513, Tryz.f513), (514, Tryz.f514), (515, Tryz.f515)]
theorem fnL5_ok : AllOf (FnOk Tryz.prog) fnL5 :=
  .cons ⟨Tryz.func422, by kernel_rfl⟩ <|
  .cons ⟨Tryz.func423, by kernel_rfl⟩ <|
  .cons ⟨Tryz.func424, by kernel_rfl⟩ <|
  .cons ⟨Tryz.func425, by kernel_rfl⟩ <|
  .cons ⟨Tryz.func426, by kernel_rfl⟩ <|
  .cons ⟨Tryz.func427, by kernel_rfl⟩ <|
  .cons ⟨Tryz.func429, by kernel_rfl⟩ <|
  .cons ⟨Tryz.func435, by kernel_rfl⟩ <|
  .cons ⟨Tryz.func436, by kernel_rfl⟩ <|
  .cons ⟨Tryz.func437, by kernel_rfl⟩ <|
  .cons ⟨Tryz.func438, by kernel_rfl⟩ <|
  .cons ⟨Tryz.func447, by kernel_rfl⟩ <|
  .cons ⟨Tryz.func448, by kernel_rfl⟩ <|
  .cons ⟨Tryz.func449, by kernel_rfl⟩ <|
  .cons ⟨Tryz.func451, by kernel_rfl⟩ <|
  .cons ⟨Tryz.func452, by kernel_rfl⟩ <|
  .cons ⟨Tryz.func453, by kernel_rfl⟩ <|
  .cons ⟨Tryz.func454, by kernel_rfl⟩ <|
  .cons ⟨Tryz.func455, by kernel_rfl⟩ <|
  .cons ⟨Tryz.func456, by kernel_rfl⟩ <|
  .cons ⟨Tryz.func457, by kernel_rfl⟩ <|
  .cons ⟨Tryz.func458, by kernel_rfl⟩ <|
  .cons ⟨Tryz.func459, by kernel_rfl⟩ <|
  .cons ⟨Tryz.func460, by kernel_rfl⟩ <|
  .cons ⟨Tryz.func461, by kernel_rfl⟩ <|
  .cons ⟨Tryz.func462, by kernel_rfl⟩ <|
  .cons ⟨Tryz.func463, by kernel_rfl⟩ <|
  .cons ⟨Tryz.func464, by kernel_rfl⟩ <|
  .cons ⟨Tryz.func465, by kernel_rfl⟩ <|
  .cons ⟨Tryz.func466, by kernel_rfl⟩ <|
  .cons ⟨Tryz.func467, by kernel_rfl⟩ <|
  .cons ⟨Tryz.func473, by kernel_rfl⟩ <|
  .cons ⟨Tryz.func483, by kernel_rfl⟩ <|
  .cons ⟨Tryz.func484, by kernel_rfl⟩ <|
  .cons ⟨Tryz.func485, by kernel_rfl⟩ <|
  .cons ⟨Tryz.func487, by kernel_rfl⟩ <|
  .cons ⟨Tryz.func488, by kernel_rfl⟩ <|
  .cons ⟨Tryz.func489, by kernel_rfl⟩ <|
  .cons ⟨Tryz.func490, by kernel_rfl⟩ <|
  .cons ⟨Tryz.func493, by kernel_rfl⟩ <|
  .cons ⟨Tryz.func506, by kernel_rfl⟩ <|
  .cons ⟨Tryz.func507, by kernel_rfl⟩ <|
  .cons ⟨Tryz.func508, by kernel_rfl⟩ <|
  .cons ⟨Tryz.func509, by kernel_rfl⟩ <|
  .cons ⟨Tryz.func510, by kernel_rfl⟩ <|
  .cons ⟨Tryz.func511, by kernel_rfl⟩ <|
  .cons ⟨Tryz.func512, by kernel_rfl⟩ <|
  .cons ⟨Tryz.func513, by kernel_rfl⟩ <|
  .cons ⟨Tryz.func514, by kernel_rfl⟩ <|
  .cons ⟨Tryz.func515, by kernel_rfl⟩ <|
  .nil
noncomputable def fnL6 : List (Nat × Func) := [(516, Tryz.f516), (517, Tryz.f517), (518, Tryz.f518), (519, Tryz.f519), (535, Tryz.f535), (540, Tryz.f540), (541, Tryz.f541), (542, Tryz.f542), (543, Tryz.f543), (551, Tryz.f551)]
theorem fnL6_ok : AllOf (FnOk Tryz.prog) fnL6 :=
  .cons ⟨Tryz.func516, by kernel_rfl⟩ <|
  .cons ⟨Tryz.func517, by kernel_rfl⟩ <|
  .cons ⟨Tryz.func518, by kernel_rfl⟩ <|
  .cons ⟨Tryz.func519, by kernel_rfl⟩ <|
  .cons ⟨Tryz.func535, by kernel_rfl⟩ <|
  .cons ⟨Tryz.func540, by kernel_rfl⟩ <|
  .cons ⟨Tryz.func541, by kernel_rfl⟩ <|
  .cons ⟨Tryz.func542, by kernel_rfl⟩ <|
  .cons ⟨Tryz.func543, by kernel_rfl⟩ <|
  .cons ⟨Tryz.func551, by kernel_rfl⟩ <|
  .nil
noncomputable def fnL : List (Nat × Func) := fnL0 ++ (fnL1 ++ (fnL2 ++ (fnL3 ++ (fnL4 ++ (fnL5 ++ (fnL6))))))
theorem fnL_ok : AllOf (FnOk Tryz.prog) fnL := (fnL0_ok).append <| (fnL1_ok).append <| (fnL2_ok).append <| (fnL3_ok).append <| (fnL4_ok).append <| (fnL5_ok).append <| fnL6_ok
def tyT : Tr TI := mkTree .lf tyL
noncomputable def fnT : Tr Func := mkTree .lf fnL
theorem mixedOk : Tryz.prog.follows .mixedOrders = true := by decide
end Go.Proofs.YtdifpleoipjjfaaGreatDoor
/- The few functions of Go's library that the evaluator does not step through: what each answers. -/
namespace Go.Proofs.YtdifpleoipjjfaaGreatDoor
open Go Go.Refl Go.RowKit

theorem sizeB : (Tryz.prog.info? 372).map (·.size) = some 2 := by kernel_rfl
theorem liesB : liesAt Tryz.prog Tryz.prog.depth 372 (2 / Tryz.prog.cellsOf 372) 0 372 1 = true := by kernel_rfl

set_option maxHeartbeats 1000000 in
set_option maxRecDepth 100000 in
theorem cc_used (b : Nat) (w : World) (h0 : w.cell? ⟨b, 0, none⟩ = some (.pointer (some ⟨b, 0, none⟩))) :
    Calls Tryz.prog 339 #[.pointer (some ⟨b, 0, none⟩)] w fun e w' => e = .returned (.tuple #[]) ∧ w' = w := by
  obtain ⟨j, hj, _⟩ := Option.map_eq_some_iff.1 sizeB
  have mixed := mixedOk
  go_enter Tryz.func339, Tryz.ntmps339
  go_wp2
  rw [Lib.run_neq_ptr_same w _ Tryz.underlying369 hj]
  go_wp2
  go_end0
  exact ⟨rfl, rfl⟩

set_option maxHeartbeats 1000000 in
set_option maxRecDepth 100000 in
theorem cc_fresh (b : Nat) (w : World) (h0 : w.cell? ⟨b, 0, none⟩ = some (.pointer none)) (hsh : w.shape? b = some (372, 2)) (hfz : w.frozen? ⟨b, 0, none⟩ = false) :
    Calls Tryz.prog 339 #[.pointer (some ⟨b, 0, none⟩)] w fun e w' => e = .returned (.tuple #[]) ∧ w' = w.setCell ⟨b, 0, none⟩ (.pointer (some ⟨b, 0, none⟩)) := by
  obtain ⟨j, hj, hjs⟩ := Option.map_eq_some_iff.1 sizeB
  have mixed := mixedOk
  go_enter Tryz.func339, Tryz.ntmps339
  go_wp2
  rw [Lib.run_to_unsafe w ⟨b, 0, none⟩ Tryz.underlying369 Tryz.underlying604 hj (by rw [hjs]; decide) hsh (Nat.zero_lt_succ 1)]
  simp only [Result.andThen]
  rw [Oper.upon_value]
  go_wp2
  rw [run_callFunc_extern Tryz.func411 (by kernel_rfl) (by kernel_rfl) (by kernel_rfl) (e := Extern.AbiNoEscape.same) (by kernel_rfl)]
  rw [Lib.run_noEscape]
  simp only [Result.andThen]
  rw [Oper.upon_value]
  go_wp2
  rw [Lib.run_from_unsafe w ⟨b, 0, none⟩ Tryz.underlying604 Tryz.underlying369 hj hsh liesB]
  simp only [Result.andThen]
  rw [Oper.upon_value]
  go_wp2
  go_end0
  exact ⟨rfl, rfl⟩

theorem cellsByte : Tryz.prog.cellsOf 5 = 1 := by kernel_rfl

set_option maxHeartbeats 2000000 in
set_option maxRecDepth 100000 in
theorem str_row (b g q n cap cells : Nat) (l : List UInt8) (w : World) (hb : w.cell? ⟨b, 1, none⟩ = some (.slice (some ⟨g, q, none⟩) n cap)) (hcap : cap ≠ 0)
    (hsh : w.shape? g = some (5, cells)) (h0 : l ≠ []) (hl : l.length = n) (hn : q + n ≤ cells) (hn2 : n ≤ 1000000)
    (hcell : ∀ j x, l[j]? = some x → w.cell? ((⟨g, q, none⟩ : Addr).add j) = some (.int .u8 x.toNat)) :
    Calls Tryz.prog 221 #[.pointer (some ⟨b, 0, none⟩)] w fun e w' => e = .returned (.string ⟨l.toArray⟩) ∧ w' = w.drew.freeze ⟨g, q, none⟩ n := by
  subst hl
  have c1 : w.drew.cell? ⟨b, 1, none⟩ = some (.slice (some ⟨g, q, none⟩) l.length cap) := hb
  have hSD : (Builtin.unsafeSliceData_ #[370] 515 #[.slice (some ⟨g, q, none⟩) l.length cap]).run Tryz.prog w.drew = .ok (.pointer (some ⟨g, q, none⟩)) w.drew :=
    Lib.run_unsafeSliceData_row _ _ _ _ _ _ hcap
  have hUS : (Builtin.unsafeString_ #[515, 3] 9 #[.pointer (some ⟨g, q, none⟩), .int .i64 l.length]).run Tryz.prog w.drew = .ok (.string ⟨l.toArray⟩) (w.drew.freeze ⟨g, q, none⟩ l.length) :=
    unsafeString_at w.drew 515 3 9 5 Tryz.underlying515 cellsByte g q cells hsh l h0 hn (by omega) hcell
  have mixed := mixedOk
  go_enter Tryz.func221, Tryz.ntmps221
  go_wp2
  go_region_o
  all_goals (go_wp2; go_ret; exact ⟨rfl, rfl⟩)
end Go.Proofs.YtdifpleoipjjfaaGreatDoor
/- What the evaluator answers for the few functions that it does not step through is right. -/
namespace Go.Proofs.YtdifpleoipjjfaaGreatDoor
open Go Go.Refl Go.RowKit

theorem args_one {ρ : Rho} {x : AV} {a : Array Value} (h : VL ρ [x] a.toList) : ∃ v, a = #[v] ∧ VR ρ x v := by
  obtain ⟨y, ys, e, h1, h2⟩ := VL.cons_iff.1 h
  have := VL.nil_iff.1 h2; subst this
  exact ⟨y, by rw [← Array.toList_inj]; exact e, h1⟩
theorem args_two {ρ : Rho} {x z : AV} {a : Array Value} (h : VL ρ [x, z] a.toList) : ∃ u v, a = #[u, v] ∧ VR ρ x u ∧ VR ρ z v := by
  obtain ⟨y, ys, e, h1, h2⟩ := VL.cons_iff.1 h
  obtain ⟨y', ys', rfl, h3, h4⟩ := VL.cons_iff.1 h2
  have := VL.nil_iff.1 h4; subst this
  exact ⟨y, y', by rw [← Array.toList_inj]; exact e, h1, h3⟩

theorem cc_ok {E : Env} {args : List AV} {h : Hp} {r : AV × Hp} (hq : nativeA 372 5 .cc args h = some r) {ρ : Rho} {w : World} {args' : Array Value}
    (hr : HR E h ρ w) (hv : VL ρ args args'.toList) : CallOk Tryz.prog E h ρ w 339 args' [r] := by
  simp only [nativeA] at hq
  split at hq <;> try (cases hq; done)
  all_goals try (rename_i heq _; cases heq; done)
  all_goals try (rename_i heq; cases heq; done)
  rename_i b _
  split at hq
  · rename_i c e opn f hrow
    split at hq
    · cases hq
    · split at hq
      · cases hq
      · rename_i he
        have he := Nat.eq_of_beq_eq_true he
        subst he
        obtain ⟨l, cs, lo, hi, g1, g2, g3, g4, g5, g6⟩ := row_sound hr hrow
        obtain ⟨hsh, hsz, _⟩ := g6.2 rfl
        obtain ⟨v0, rfl, hv0⟩ := args_one hv
        cases hv0 with
        | ptr _ _ l' hl' =>
        rw [g1] at hl'; cases hl'
        rw [hsh] at g4 g5 ⊢
        simp only [Nat.zero_add] at g4 g5
        refine callOk_calls (Tryz.call339 _ w) ?_
        split at hq
        · rename_i v
          split at hq
          · cases hq
            have hsize : cs.size = 2 := by rw [hsz]; rfl
            obtain ⟨u0, c0, r0⟩ := g4 0 _ rfl
            obtain ⟨u1, c1, r1⟩ := g4 1 _ rfl
            cases r0
            have hfz : w.frozen? ⟨l.blk, 0, none⟩ = false := by
              simp only [World.frozen?, g2]
              have := g5 0 (Nat.le_refl _) (by omega)
              rw [Bool.eq_false_iff]
              intro hh
              simp at hh
              omega
            refine (cc_fresh l.blk w (cell_of g2 c0) (by simp [World.shape?, g2, hsize]) hfz).mono ?_
            rintro e' w' ⟨rfl, rfl⟩
            refine ⟨_, _, ρ, _, List.mem_singleton.2 rfl, rfl, ?_, .tup [] #[] rfl (by simp)⟩
            have hset : (w.setCell ⟨l.blk, 0, none⟩ (.pointer (some ⟨l.blk, 0, none⟩))).heap[l.blk]? = some (.cells (cs.setIfInBounds 0 (.pointer (some ⟨l.blk, 0, none⟩))) 372 (lo, hi)) := by
              unfold World.setCell
              simp [Array.getElem?_modify, g2]
            refine Up.put_block hr g3 g1 (fun c hc => ?_) hset (by unfold World.setCell; simp) rfl rfl rfl ⟨_, lo, hi, rfl, fun i x hx => ?_, fun i h1 h2 => ?_, ⟨fun h => (by cases h), fun _ => ⟨hsh, (by simpa using hsize), fun h => absurd h (by simp)⟩⟩⟩
            · unfold World.setCell
              simp only [Array.getElem?_modify]
              rw [if_neg (fun e => hc e.symm)]
            · rw [hsh, Nat.zero_add]
              match i, hx with
              | 0, hx =>
                cases hx
                refine ⟨.pointer (some ⟨l.blk, 0, none⟩), by simp [hsize], ?_⟩
                have := VR.ptr (ρ := ρ) b 0 l g1
                rw [hsh] at this
                exact this
              | 1, hx =>
                cases hx
                exact ⟨u1, by rw [Array.getElem?_setIfInBounds_ne (by decide)]; exact c1, r1⟩
              | (i + 2), hx => simp at hx
            · rw [hsh, Nat.zero_add] at h2 ⊢
              exact g5 i h1 (by simpa using h2)
          · cases hq
        · rename_i b' v
          split at hq
          · rename_i hb
            have hb := Nat.eq_of_beq_eq_true hb
            subst hb
            cases hq
            obtain ⟨u0, c0, r0⟩ := g4 0 _ rfl
            cases r0 with
            | ptr _ _ l' hl' =>
            rw [g1] at hl'; cases hl'
            rw [hsh] at c0
            refine (cc_used l.blk w (cell_of g2 c0)).mono ?_
            rintro e' w' ⟨rfl, rfl⟩
            exact ⟨_, _, ρ, _, List.mem_singleton.2 rfl, rfl, Up.refl hr, .tup [] #[] rfl (by simp)⟩
          · cases hq
        · cases hq
  · cases hq

theorem str_ok {E : Env} {args : List AV} {h : Hp} {r : AV × Hp} (hq : nativeA 372 5 .str args h = some r) {ρ : Rho} {w : World} {args' : Array Value}
    (hr : HR E h ρ w) (hv : VL ρ args args'.toList) : CallOk Tryz.prog E h ρ w 221 args' [r] := by
  simp only [nativeA] at hq
  split at hq <;> try (cases hq; done)
  all_goals try (rename_i heq _; cases heq; done)
  all_goals try (rename_i heq; cases heq; done)
  rename_i b _
  split at hq
  · rename_i c e opn f hrow
    split at hq
    · cases hq
    · split at hq
      · rename_i v0 r0 off len cap
        split at hq
        · rename_i c2 e2 o2 f2 hrow2
          split at hq
          · cases hq
          · rename_i he
            have he := Nat.eq_of_beq_eq_true he
            subst he
            split at hq
            · rename_i xs hxs
              split at hq
              · rename_i s hs
                split at hq
                · cases hq
                · rename_i s0 ss
                  split at hq
                  · rename_i hle
                    have hle := Nat.le_of_ble_eq_true hle
                    cases hq
                    obtain ⟨l, cs, lo, hi, g1, g2, g3, g4, g5, g6⟩ := row_sound hr hrow
                    obtain ⟨hsh, hsz, _⟩ := g6.2 rfl
                    obtain ⟨va, rfl, hva⟩ := args_one hv
                    cases hva with
                    | ptr _ _ l' hl' =>
                    rw [g1] at hl'; cases hl'
                    rw [hsh] at g4 ⊢
                    simp only [Nat.zero_add] at g4
                    obtain ⟨u1, c1, r1⟩ := g4 1 _ rfl
                    obtain ⟨m, ms, lo2, hi2, k1, k2, k3, k4, k5, k6⟩ := row_sound hr hrow2
                    obtain ⟨vs, q1, q2, q3⟩ := loads (P := Tryz.prog) hr hrow2 hxs k1
                    obtain ⟨bs, rfl, hbs⟩ := strOf_sound hs q1
                    have hxl := (takeN_eq hxs).2
                    have hbl : bs.length = len := by have := q1.1; simp at this; omega
                    have hb0 : bs ≠ [] := by intro e; subst e; simp at hbs
                    have hlen0 : len ≠ 0 := by rw [← hbl]; simpa using hb0
                    have hfit : m.sh + off + len ≤ ms.size := by
                      have hlt : off + (len - 1) < c2.length := by
                        have h1 := (takeN_eq hxs).1
                        have h2 : xs.length = min len (c2.length - off) := by rw [h1]; simp
                        omega
                      obtain ⟨v, hv', _⟩ := k4 (off + (len - 1)) _ (List.getElem?_eq_getElem hlt)
                      have := (Array.getElem?_eq_some_iff.1 hv').1
                      omega
                    obtain ⟨capn, hcap, rfl⟩ : ∃ n, n ≠ 0 ∧ u1 = .slice (some ⟨m.blk, m.sh + off, none⟩) len n := by
                      cases r1 with
                      | slx _ _ _ n l1 hl1 hl2 => rw [k1] at hl1; cases hl1; exact ⟨n, by omega, rfl⟩
                      | slo _ _ _ s c l1 hl1 hc hl2 => rw [k1] at hl1; cases hl1; exact ⟨c, by omega, rfl⟩
                    refine callOk_calls (Tryz.call221 _ w) ?_
                    refine (str_row l.blk m.blk (m.sh + off) len capn ms.size bs w (cell_of g2 c1) hcap (by simp [World.shape?, k2]) hb0 hbl (by omega) hle ?_).mono ?_
                    · intro j x hx
                      rw [addr_add]
                      exact q3 j _ (by simp [hx])
                    · rintro e' w' ⟨rfl, rfl⟩
                      refine ⟨_, _, ρ, _, List.mem_singleton.2 rfl, rfl, ?_, .str _ _ hbs⟩
                      obtain ⟨f1, f2, f3⟩ := freeze_rest w.drew ⟨m.blk, m.sh + off, none⟩ len
                      exact Up.lose hr k3 k1 (fun c hc => freeze_other w.drew _ _ c hc) (freeze_size w.drew _ _) f1 f2 f3
                  · cases hq
              · cases hq
            · cases hq
        · cases hq
      · cases hq
  · cases hq

theorem mnz_ok {E : Env} {te : TI} (h5 : E.ty 5 = some te) (h51 : te.size = 1) {args : List AV} {h : Hp} {r : AV × Hp} (hq : nativeA 372 5 .mnz args h = some r) {ρ : Rho} {w : World} {args' : Array Value}
    (hr : HR E h ρ w) (hv : VL ρ args args'.toList) : CallOk Tryz.prog E h ρ w 412 args' [r] := by
  simp only [nativeA] at hq
  split at hq <;> try (cases hq; done)
  all_goals try (rename_i heq _; cases heq; done)
  all_goals try (rename_i heq; cases heq; done)
  rename_i n _
  split at hq
  · rename_i hle
    have hle := Nat.le_of_ble_eq_true hle
    cases hq
    obtain ⟨va, rfl, hva⟩ := args_one hv
    cases hva
    obtain ⟨cs, hrun, hn, _⟩ := Lib.run_makeNoZero (P := Tryz.prog) w #[3] 370 5 Tryz.underlying370 n (by omega)
    refine .inr ⟨_, _, ρ.add h.next ⟨w.heap.size, 0, cs.size⟩, .slice (some ⟨w.heap.size, 0, none⟩) n cs.size, w.drew.drew.alloc (.cells cs 5), List.mem_singleton.2 rfl, ?_, Up.new_block hr (ob := .cells cs 5) 0 cs.size rfl rfl rfl rfl ?_, ?_⟩
    · rw [run_callFunc_extern Tryz.func412 (by kernel_rfl) (by kernel_rfl) (by kernel_rfl) (e := Extern.BytealgMakeNoZero.makeNoZero #[3] #[370]) (by kernel_rfl)]
      have : (Int.ofNat n) = ((n : Nat) : Int) := rfl
      rw [this, hrun]
      rfl
    · refine ⟨cs, 0, 0, rfl, by simp, by intro i _ _; omega, ⟨fun _ => ⟨te, h5, by rw [h51]; simp⟩, fun h => by cases h⟩⟩
    · exact .slo _ _ _ _ cs.size _ (Rho.add_same _ _ _) rfl hn
  · cases hq

theorem ixb_ok {E : Env} {args : List AV} {h : Hp} {r : AV × Hp} (hq : nativeA 372 5 .ixb args h = some r) {ρ : Rho} {w : World} {args' : Array Value}
    (hr : HR E h ρ w) (hv : VL ρ args args'.toList) : CallOk Tryz.prog E h ρ w 532 args' [r] := by
  simp only [nativeA] at hq
  split at hq <;> try (cases hq; done)
  all_goals try (rename_i heq _; cases heq; done)
  all_goals try (rename_i heq; cases heq; done)
  rename_i s c _
  split at hq
  · rename_i hlt
    have hlt : c < 256 := by simpa [Nat.blt_eq] using hlt
    obtain ⟨va, vb, rfl, hva, hvb⟩ := args_two hv
    cases hvb
    cases hva with
    | str _ a ha =>
    have hrun : (callFunc 532 #[.string a, .int .u8 (Int.ofNat c)]).run Tryz.prog w = .ok (.value (.int .i64 (Lib.indexByte a.data.toList c.toUInt8))) w := by
      rw [run_callFunc_extern Tryz.func532 (by kernel_rfl) (by kernel_rfl) (by kernel_rfl) (e := Extern.BytealgIndexByte.indexByte) (by kernel_rfl), Lib.run_indexByteString]
      rfl
    have hix := (ixOf_eq c.toUInt8 a.data.toList 0).1
    have hc : c.toUInt8.toNat = c := by simp [Nat.mod_eq_of_lt hlt]
    rw [hc, ha] at hix
    refine .inr ⟨r.1, r.2, ρ, _, w, List.mem_singleton.2 rfl, hrun, ?_, ?_⟩
    · split at hq <;> cases hq <;> exact Up.refl hr
    · split at hq
      · rename_i i hi
        rw [hi] at hix
        simp only at hix
        cases hq
        rw [← hix]
        have := VR.int (ρ := ρ) .i64 (Int.ofNat i)
        simpa using this
      · rename_i hi
        rw [hi] at hix
        simp only at hix
        cases hq
        rw [← hix]
        exact .int .i64 (-1)
  · cases hq

theorem cmp_ok {E : Env} {args : List AV} {h : Hp} {r : AV × Hp} (hq : nativeA 372 5 .cmp args h = some r) {ρ : Rho} {w : World} {args' : Array Value}
    (hr : HR E h ρ w) (hv : VL ρ args args'.toList) : CallOk Tryz.prog E h ρ w 560 args' [r] := by
  simp only [nativeA] at hq
  split at hq <;> try (cases hq; done)
  all_goals try (rename_i heq _; cases heq; done)
  all_goals try (rename_i heq; cases heq; done)
  rename_i s t _
  obtain ⟨va, vb, rfl, hva, hvb⟩ := args_two hv
  cases hva with
  | str _ a ha =>
  cases hvb with
  | str _ b hb =>
  have hrun : (callFunc 560 #[.string a, .string b]).run Tryz.prog w = .ok (.value (.int .i64 (Lib.compareBytes a.data.toList b.data.toList))) w := by
    rw [run_callFunc_extern Tryz.func560 (by kernel_rfl) (by kernel_rfl) (by kernel_rfl) (e := Extern.BytealgCompare.compare) (by kernel_rfl), Lib.run_compareString]
    rfl
  refine .inr ⟨r.1, r.2, ρ, _, w, List.mem_singleton.2 rfl, hrun, ?_, ?_⟩
  · split at hq
    · cases hq; exact Up.refl hr
    · split at hq <;> cases hq <;> exact Up.refl hr
  · rw [compare_eq]
    rw [← ha, ← hb] at hq
    split at hq
    · rename_i h1
      rw [if_pos (toNat_inj (listEq_iff.1 h1))]
      cases hq
      exact .int .i64 0
    · rename_i h1
      have hne : a.data.toList ≠ b.data.toList := by intro e; rw [e] at h1; rw [listEq_iff.2 rfl] at h1; cases h1
      rw [if_neg hne]
      rw [bless_eq] at hq
      split at hq
      · rename_i h2; cases hq; rw [if_pos h2]; exact .int .i64 (-1)
      · rename_i h2; cases hq; rw [if_neg (by rw [h2]; decide)]; exact .int .i64 1

def nkL : List (Nat × Nk) := [(339, .cc), (221, .str), (412, .mnz), (532, .ixb), (560, .cmp)]
def nkT : Tr Nk := mkTree .lf nkL

theorem native_ok {E : Env} {te : TI} (h5 : E.ty 5 = some te) (h51 : te.size = 1) {f : Nat} {k : Nk} (hk : nkT.get f = some k) {args : List AV} {h : Hp} {r : AV × Hp}
    (hq : nativeA 372 5 k args h = some r) {ρ : Rho} {w : World} {args' : Array Value} (hr : HR E h ρ w) (hv : VL ρ args args'.toList) : CallOk Tryz.prog E h ρ w f args' [r] := by
  rcases mkTree_get _ _ _ _ hk with h | h
  · rw [lf_get] at h; cases h
  · simp only [nkL, List.mem_cons, List.not_mem_nil, or_false, Prod.mk.injEq] at h
    rcases h with ⟨rfl, rfl⟩ | ⟨rfl, rfl⟩ | ⟨rfl, rfl⟩ | ⟨rfl, rfl⟩ | ⟨rfl, rfl⟩
    · exact cc_ok hq hr hv
    · exact str_ok hq hr hv
    · exact mnz_ok h5 h51 hq hr hv
    · exact ixb_ok hq hr hv
    · exact cmp_ok hq hr hv
end Go.Proofs.YtdifpleoipjjfaaGreatDoor
/- The evaluator over tables of kept answers: one more answer, and what a table answers is right. -/
namespace Go.Proofs.YtdifpleoipjjfaaGreatDoor
open Go Go.Refl Go.RowKit

def addEnt (e : Ent) (t : Tr (List Ent)) : Tr (List Ent) :=
  t.set e.f (match t.get e.f with
    | some l => e :: l
    | none => [e])

noncomputable def envT (pf : Nat × Nat) (t : Tr (List Ent)) : Env :=
  { fns := fnsOf fnT, ty := tyT.get, globs := 9,
    known := fun f args h => match nkT.get f with
      | some k => nativeA 372 5 k args h
      | none => match t.get f with
        | some l => useEnts 9 l args h
        | none => none
    pf := pf }

theorem tyT_eq : tyT = mkTree .lf tyL := by kernel_rfl
theorem fnT_eq : fnT = mkTree .lf fnL := by kernel_rfl
theorem envT_ty (pf : Nat × Nat) (t : Tr (List Ent)) : (envT pf t).ty = tyT.get := by kernel_rfl
theorem envT_fns (pf : Nat × Nat) (t : Tr (List Ent)) : (envT pf t).fns = fnsOf fnT := by kernel_rfl
theorem envT_pf (pf : Nat × Nat) (t : Tr (List Ent)) : (envT pf t).pf = pf := by kernel_rfl
theorem envT_globs (pf : Nat × Nat) (t : Tr (List Ent)) : (envT pf t).globs = 9 := by kernel_rfl
theorem envT_known (pf : Nat × Nat) (t : Tr (List Ent)) (f : Nat) (args : List AV) (h : Hp) : (envT pf t).known f args h = (match nkT.get f with
      | some k => nativeA 372 5 k args h
      | none => match t.get f with
        | some l => useEnts 9 l args h
        | none => none) := by unfold envT; rfl

theorem envT_ok (pf : Nat × Nat) (t : Tr (List Ent)) : EnvOk Tryz.prog (envT pf t) :=
  envOk_of (by rw [envT_ty, tyT_eq]) (by rw [envT_fns, fnT_eq]) tyL_ok fnL_ok mixedOk

def TabOk (pf : Nat × Nat) (t : Tr (List Ent)) : Prop := ∀ f l, t.get f = some l → ∀ e ∈ l, e.f = f ∧ EntRun Tryz.prog (envT pf .lf) e

theorem tabOk_lf (pf : Nat × Nat) : TabOk pf .lf := by
  intro f l h
  rw [lf_get] at h; cases h

theorem tabOk_add {pf : Nat × Nat} {t : Tr (List Ent)} {e : Ent} (ht : TabOk pf t) (he : EntRun Tryz.prog (envT pf .lf) e) : TabOk pf (addEnt e t) := by
  intro f l h
  unfold addEnt at h
  rw [Tr.get_set] at h
  split at h
  · rename_i hf
    subst hf
    cases h
    intro x hx
    split at hx
    · rename_i l0 h0
      rcases List.mem_cons.1 hx with rfl | hx
      · exact ⟨rfl, he⟩
      · exact ht _ _ h0 x hx
    · rcases List.mem_cons.1 hx with rfl | hx
      · exact ⟨rfl, he⟩
      · cases hx
  · exact ht f l h

theorem useEnts_mem {G : Nat} : ∀ {l : List Ent} {args : List AV} {h : Hp} {r : AV × Hp}, useEnts G l args h = some r → ∃ e ∈ l, useEnt G e args h = some r
  | [], _, _, _, h => by simp [useEnts] at h
  | e :: es, args, h, r, hq => by
    simp only [useEnts] at hq
    split at hq
    · rename_i r' hr
      cases hq
      exact ⟨e, List.mem_cons_self, hr⟩
    · obtain ⟨x, h1, h2⟩ := useEnts_mem hq
      exact ⟨x, List.mem_cons_of_mem _ h1, h2⟩

theorem byteTy : ∃ te, tyT.get 5 = some te ∧ te.size = 1 := ⟨ty5, by kernel_rfl, by kernel_rfl⟩

theorem knownT_ok {pf : Nat × Nat} {t : Tr (List Ent)} (ht : TabOk pf t) : KnownOk Tryz.prog (envT pf t) := by
  intro f args h r hk ρ w args' hr hv
  rw [envT_known] at hk
  split at hk
  · rename_i k hn
    obtain ⟨te, h1, h2⟩ := byteTy
    exact native_ok (te := te) (by rw [envT_ty]; exact h1) h2 hn hk hr hv
  · split at hk
    · rename_i l hl
      obtain ⟨e, he, hu⟩ := useEnts_mem hk
      obtain ⟨h1, h2⟩ := ht f l hl e he
      subst h1
      exact useEnt_sound (E := envT pf t) (h2.env (by rw [envT_ty, envT_ty]) (by rw [envT_pf, envT_pf]) (by rw [envT_globs, envT_globs])) (by rw [envT_globs]; exact hu) hr hv
    · cases hk

theorem tabOk_step {pf : Nat × Nat} {t : Tr (List Ent)} {e : Ent} (ht : TabOk pf t) (h : runEnt (envT pf t) 100000 e = true) : TabOk pf (addEnt e t) :=
  tabOk_add ht ((entRun_of (envT_ok pf t) (knownT_ok ht) h).env (by rw [envT_ty, envT_ty]) (by rw [envT_pf, envT_pf]) (by rw [envT_globs, envT_globs]))

/-- The row of the powers of ten. -/
def powRow : AObj := .row [.int .u64 1, .int .u64 10, .int .u64 100, .int .u64 1000, .int .u64 10000, .int .u64 100000, .int .u64 1000000, .int .u64 10000000, .int .u64 100000000, .int .u64 1000000000, .int .u64 10000000000, .int .u64 100000000000, .int .u64 1000000000000, .int .u64 10000000000000, .int .u64 100000000000000, .int .u64 1000000000000000, .int .u64 10000000000000000, .int .u64 100000000000000000, .int .u64 1000000000000000000, .int .u64 10000000000000000000] 738 false 21
def powGl : List (Nat × AObj) := [(3, powRow)]
end Go.Proofs.YtdifpleoipjjfaaGreatDoor
