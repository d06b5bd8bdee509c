/- StoreCells: whatever the bytes and whatever the pass, the call hands back true, and what came in reads as it did. No condition is laid on the input. -/
import Derived.Test.YtfniiaghlkacaaaGreatKT20
import Derived.Test.YtfniiaghlkacaaaGreatAm29
import Derived.Test.YtfniiaghlkacaaaGreatJC
namespace Go.AM.T20
open Go Go.AM Go.AM.G Go.Proofs

theorem told_ok : PrimOk Tryz.prog 29 pTrue := by
  obtain ⟨h', q⟩ := told20
  obtain ⟨k, hk⟩ := lim_spec.1 (runN_ok all2.tok _ _ _ _ _ q)
  exact pTrue_ok all2.tab hk

theorem may_ok : PrimOk Tryz.prog 32 (pTrueAt [.agg defconf]) := by
  obtain ⟨h', q⟩ := may20
  obtain ⟨k, hk⟩ := lim_spec.1 (runN_ok all2.tok _ _ _ _ _ q)
  exact pTrueAt_ok all2.tab (by rfl) hk

noncomputable def lst3 : Tab := [
  (29, (.prim pTrue, fun _ vs h => pTrue vs h)),
  (40, (.code d40.fn, ap2 g40)),
  (39, (.code d39.fn, ap1 g39)),
  (38, (.code d38.fn, ap1 g38)),
  (164, (.code d164.fn, ap2 g164)),
  (163, (.code d163.fn, ap1 g163)),
  (85, (.code d85.fn, ap2 g85)),
  (123, (.code d123.fn, ap2 g123)),
  (122, (.code d122.fn, ap2 g122)),
  (120, (.code d120.fn, ap2 g120)),
  (209, (.code d209.fn, ap2 g209)),
  (197, (.code d197.fn, ap3 g197)),
  (275, (.code d275.fn, ap1 g275)),
  (196, (.code d196.fn, ap3 g196)),
  (194, (.code d194.fn, ap2 g194)),
  (119, (.code d119.fn, ap3 g119)),
  (193, (.code d193.fn, ap1 g193)),
  (118, (.code d118.fn, ap2 g118)),
  (49, (.code d49.fn, ap2 g49)),
  (308, (.code d308.fn, ap2 g308)),
  (236, (.code d236.fn, ap2 g236)),
  (91, (.code d91.fn, ap2 g91)),
  (117, (.code d117.fn, ap1 g117)),
  (235, (.code d235.fn, ap1 g235)),
  (162, (.code d162.fn, ap3 g162)),
  (161, (.code d161.fn, ap2 g161)),
  (288, (.code d288.fn, ap3 g288)),
  (207, (.code d207.fn, ap1 g207)),
  (172, (.code d172.fn, ap1 g172)),
  (89, (.code d89.fn, ap1 g89)),
  (205, (.code d205.fn, ap2 g205)),
  (133, (.code d133.fn, ap4 g133)),
  (218, (.code d218.fn, ap1 g218)),
  (132, (.code d132.fn, ap5 g132)),
  (60, (.code d60.fn, ap3 g60)),
  (213, (.code d213.fn, ap2 g213)),
  (130, (.code d130.fn, ap1 g130)),
  (291, (.code d291.fn, ap1 g291)),
  (210, (.code d210.fn, ap2 g210)),
  (128, (.code d128.fn, ap2 g128)),
  (204, (.code d204.fn, ap2 g204)),
  (228, (.code d228.fn, ap2 g228)),
  (201, (.code d201.fn, ap2 g201)),
  (202, (.code d202.fn, ap3 g202)),
  (124, (.code d124.fn, ap1 g124)),
  (50, (.code d50.fn, ap2 g50)),
  (78, (.code d78.fn, ap1 g78)),
  (279, (.code d279.fn, ap2 g279)),
  (199, (.code d199.fn, ap2 g199)),
  (330, (.code d330.fn, ap2 g330)),
  (277, (.code d277.fn, ap2 g277)),
  (276, (.code d276.fn, ap1 g276)),
  (198, (.code d198.fn, ap2 g198)),
  (121, (.code d121.fn, ap4 g121)),
  (168, (.code d168.fn, ap1 g168)),
  (167, (.code d167.fn, ap1 g167)),
  (166, (.code d166.fn, ap1 g166)),
  (237, (.code d237.fn, ap1 g237)),
  (195, (.code d195.fn, ap4 g195)),
  (165, (.code d165.fn, ap1 g165)),
  (87, (.code d87.fn, ap1 g87)),
  (86, (.code d86.fn, ap1 g86)),
  (36, (.code d36.fn, ap2 g36)),
  (37, (.code d37.fn, ap1 g37)),
  (35, (.code d35.fn, ap1 g35)),
  (72, (.code d72.fn, ap2 g72)),
  (170, (.code d170.fn, ap3 g170)),
  (240, (.code d240.fn, ap1 g240)),
  (239, (.code d239.fn, ap1 g239)),
  (238, (.code d238.fn, ap1 g238)),
  (169, (.code d169.fn, ap1 g169)),
  (88, (.code d88.fn, ap2 g88)),
  (30, (.code d30.fn, ap3 g30)),
  (59, (.code d59.fn, ap1 g59)),
  (192, (.code d192.fn, ap1 g192)),
  (116, (.code d116.fn, ap1 g116)),
  (115, (.code d115.fn, ap1 g115)),
  (114, (.code d114.fn, ap1 g114)),
  (111, (.code d111.fn, ap2 g111)),
  (191, (.code d191.fn, ap1 g191)),
  (113, (.code d113.fn, ap1 g113)),
  (112, (.code d112.fn, ap1 g112)),
  (110, (.code d110.fn, ap1 g110)),
  (109, (.code d109.fn, ap1 g109)),
  (108, (.code d108.fn, ap1 g108)),
  (107, (.code d107.fn, ap2 g107)),
  (106, (.code d106.fn, ap2 g106)),
  (105, (.code d105.fn, ap2 g105)),
  (190, (.code d190.fn, ap2 g190)),
  (104, (.code d104.fn, ap2 g104)),
  (103, (.code d103.fn, ap1 g103)),
  (189, (.code d189.fn, ap1 g189)),
  (102, (.code d102.fn, ap1 g102)),
  (188, (.code d188.fn, ap1 g188)),
  (101, (.code d101.fn, ap2 g101)),
  (47, (.code d47.fn, ap1 g47)),
  (84, (.code d84.fn, ap1 g84)),
  (293, (.code d293.fn, ap1 g293)),
  (212, (.code d212.fn, ap2 g212)),
  (211, (.code d211.fn, ap2 g211)),
  (129, (.code d129.fn, ap2 g129)),
  (53, (.code d53.fn, ap4 g53)),
  (160, (.code d160.fn, ap3 g160)),
  (234, (.code d234.fn, ap1 g234)),
  (233, (.code d233.fn, ap3 g233)),
  (159, (.code d159.fn, ap1 g159)),
  (83, (.code d83.fn, ap1 g83)),
  (224, (.code d224.fn, ap2 g224)),
  (232, (.code d232.fn, ap1 g232)),
  (158, (.code d158.fn, ap2 g158)),
  (79, (.code d79.fn, ap1 g79)),
  (180, (.code d180.fn, ap2 g180)),
  (171, (.code d171.fn, ap2 g171)),
  (90, (.code d90.fn, ap1 g90)),
  (157, (.code d157.fn, ap3 g157)),
  (82, (.code d82.fn, ap2 g82)),
  (81, (.code d81.fn, ap1 g81)),
  (290, (.code d290.fn, ap1 g290)),
  (289, (.code d289.fn, ap1 g289)),
  (208, (.code d208.fn, ap1 g208)),
  (126, (.code d126.fn, ap1 g126)),
  (52, (.code d52.fn, ap1 g52)),
  (34, (.code d34.fn, ap2 g34)),
  (33, (.code d33.fn, ap1 g33)),
  (31, (.code d31.fn, ap0 g31)),
  (5, (.code d5.fn, ap2 g5)),
  (156, (.code d156.fn, ap1 g156)),
  (155, (.code d155.fn, ap3 g155)),
  (80, (.code d80.fn, ap1 g80)),
  (32, (.prim (pTrueAt [.agg defconf]), fun _ vs h => (pTrueAt [.agg defconf]) vs h)),
  (149, (.prim addP, fun _ vs h => addP vs h))]
theorem all3 : GAll Tryz.prog lst3 := .cons (.prim _) told_ok (.cons (G.ok2 e40) m40 (.cons (G.ok1 e39) m39 (.cons (G.ok1 e38) m38 (.cons (G.ok2 e164) m164 (.cons (G.ok1 e163) m163 (.cons (G.ok2 e85) m85 (.cons (G.ok2 e123) m123 (.cons (G.ok2 e122) m122 (.cons (G.ok2 e120) m120 (.cons (G.ok2 e209) m209 (.cons (G.ok3 e197) m197 (.cons (G.ok1 e275) m275 (.cons (G.ok3 e196) m196 (.cons (G.ok2 e194) m194 (.cons (G.ok3 e119) m119 (.cons (G.ok1 e193) m193 (.cons (G.ok2 e118) m118 (.cons (G.ok2 e49) m49 (.cons (G.ok2 e308) m308 (.cons (G.ok2 e236) m236 (.cons (G.ok2 e91) m91 (.cons (G.ok1 e117) m117 (.cons (G.ok1 e235) m235 (.cons (G.ok3 e162) m162 (.cons (G.ok2 e161) m161 (.cons (G.ok3 e288) m288 (.cons (G.ok1 e207) m207 (.cons (G.ok1 e172) m172 (.cons (G.ok1 e89) m89 (.cons (G.ok2 e205) m205 (.cons (G.ok4 e133) m133 (.cons (G.ok1 e218) m218 (.cons (G.ok5 e132) m132 (.cons (G.ok3 e60) m60 (.cons (G.ok2 e213) m213 (.cons (G.ok1 e130) m130 (.cons (G.ok1 e291) m291 (.cons (G.ok2 e210) m210 (.cons (G.ok2 e128) m128 (.cons (G.ok2 e204) m204 (.cons (G.ok2 e228) m228 (.cons (G.ok2 e201) m201 (.cons (G.ok3 e202) m202 (.cons (G.ok1 e124) m124 (.cons (G.ok2 e50) m50 (.cons (G.ok1 e78) m78 (.cons (G.ok2 e279) m279 (.cons (G.ok2 e199) m199 (.cons (G.ok2 e330) m330 (.cons (G.ok2 e277) m277 (.cons (G.ok1 e276) m276 (.cons (G.ok2 e198) m198 (.cons (G.ok4 e121) m121 (.cons (G.ok1 e168) m168 (.cons (G.ok1 e167) m167 (.cons (G.ok1 e166) m166 (.cons (G.ok1 e237) m237 (.cons (G.ok4 e195) m195 (.cons (G.ok1 e165) m165 (.cons (G.ok1 e87) m87 (.cons (G.ok1 e86) m86 (.cons (G.ok2 e36) m36 (.cons (G.ok1 e37) m37 (.cons (G.ok1 e35) m35 (.cons (G.ok2 e72) m72 (.cons (G.ok3 e170) m170 (.cons (G.ok1 e240) m240 (.cons (G.ok1 e239) m239 (.cons (G.ok1 e238) m238 (.cons (G.ok1 e169) m169 (.cons (G.ok2 e88) m88 (.cons (G.ok3 e30) m30 (.cons (G.ok1 e59) m59 (.cons (G.ok1 e192) m192 (.cons (G.ok1 e116) m116 (.cons (G.ok1 e115) m115 (.cons (G.ok1 e114) m114 (.cons (G.ok2 e111) m111 (.cons (G.ok1 e191) m191 (.cons (G.ok1 e113) m113 (.cons (G.ok1 e112) m112 (.cons (G.ok1 e110) m110 (.cons (G.ok1 e109) m109 (.cons (G.ok1 e108) m108 (.cons (G.ok2 e107) m107 (.cons (G.ok2 e106) m106 (.cons (G.ok2 e105) m105 (.cons (G.ok2 e190) m190 (.cons (G.ok2 e104) m104 (.cons (G.ok1 e103) m103 (.cons (G.ok1 e189) m189 (.cons (G.ok1 e102) m102 (.cons (G.ok1 e188) m188 (.cons (G.ok2 e101) m101 (.cons (G.ok1 e47) m47 (.cons (G.ok1 e84) m84 (.cons (G.ok1 e293) m293 (.cons (G.ok2 e212) m212 (.cons (G.ok2 e211) m211 (.cons (G.ok2 e129) m129 (.cons (G.ok4 e53) m53 (.cons (G.ok3 e160) m160 (.cons (G.ok1 e234) m234 (.cons (G.ok3 e233) m233 (.cons (G.ok1 e159) m159 (.cons (G.ok1 e83) m83 (.cons (G.ok2 e224) m224 (.cons (G.ok1 e232) m232 (.cons (G.ok2 e158) m158 (.cons (G.ok1 e79) m79 (.cons (G.ok2 e180) m180 (.cons (G.ok2 e171) m171 (.cons (G.ok1 e90) m90 (.cons (G.ok3 e157) m157 (.cons (G.ok2 e82) m82 (.cons (G.ok1 e81) m81 (.cons (G.ok1 e290) m290 (.cons (G.ok1 e289) m289 (.cons (G.ok1 e208) m208 (.cons (G.ok1 e126) m126 (.cons (G.ok1 e52) m52 (.cons (G.ok2 e34) m34 (.cons (G.ok1 e33) m33 (.cons (G.ok0 e31) m31 (.cons (G.ok2 e5) m5 (.cons (G.ok1 e156) m156 (.cons (G.ok3 e155) m155 (.cons (G.ok1 e80) m80 (.cons (.prim _) may_ok (.cons (.prim _) (addP_ok x149.choose_spec) (.nil)))))))))))))))))))))))))))))))))))))))))))))))))))))))))))))))))))))))))))))))))))))))))))))))))))))))))))))))))))))))))))))))))))
noncomputable abbrev tab3 : FuncId → Option Entry := tabE (trOf lst3)
theorem codes_ok3 : ∀ p ∈ codes, tab3 p.1 = some (.code p.2.fn) := List.forall_mem_cons.2 ⟨(by kernel_rfl), List.forall_mem_cons.2 ⟨(by kernel_rfl), List.forall_mem_cons.2 ⟨(by kernel_rfl), List.forall_mem_cons.2 ⟨(by kernel_rfl), List.forall_mem_cons.2 ⟨(by kernel_rfl), List.forall_mem_cons.2 ⟨(by kernel_rfl), List.forall_mem_cons.2 ⟨(by kernel_rfl), List.forall_mem_cons.2 ⟨(by kernel_rfl), List.forall_mem_cons.2 ⟨(by kernel_rfl), List.forall_mem_cons.2 ⟨(by kernel_rfl), List.forall_mem_cons.2 ⟨(by kernel_rfl), List.forall_mem_cons.2 ⟨(by kernel_rfl), List.forall_mem_cons.2 ⟨(by kernel_rfl), List.forall_mem_cons.2 ⟨(by kernel_rfl), List.forall_mem_cons.2 ⟨(by kernel_rfl), List.forall_mem_cons.2 ⟨(by kernel_rfl), List.forall_mem_cons.2 ⟨(by kernel_rfl), List.forall_mem_cons.2 ⟨(by kernel_rfl), List.forall_mem_cons.2 ⟨(by kernel_rfl), List.forall_mem_cons.2 ⟨(by kernel_rfl), List.forall_mem_cons.2 ⟨(by kernel_rfl), List.forall_mem_cons.2 ⟨(by kernel_rfl), List.forall_mem_cons.2 ⟨(by kernel_rfl), List.forall_mem_cons.2 ⟨(by kernel_rfl), List.forall_mem_cons.2 ⟨(by kernel_rfl), List.forall_mem_cons.2 ⟨(by kernel_rfl), List.forall_mem_cons.2 ⟨(by kernel_rfl), List.forall_mem_cons.2 ⟨(by kernel_rfl), List.forall_mem_cons.2 ⟨(by kernel_rfl), List.forall_mem_cons.2 ⟨(by kernel_rfl), List.forall_mem_cons.2 ⟨(by kernel_rfl), List.forall_mem_cons.2 ⟨(by kernel_rfl), List.forall_mem_cons.2 ⟨(by kernel_rfl), List.forall_mem_cons.2 ⟨(by kernel_rfl), List.forall_mem_cons.2 ⟨(by kernel_rfl), List.forall_mem_cons.2 ⟨(by kernel_rfl), List.forall_mem_cons.2 ⟨(by kernel_rfl), List.forall_mem_cons.2 ⟨(by kernel_rfl), List.forall_mem_cons.2 ⟨(by kernel_rfl), List.forall_mem_cons.2 ⟨(by kernel_rfl), List.forall_mem_cons.2 ⟨(by kernel_rfl), List.forall_mem_cons.2 ⟨(by kernel_rfl), List.forall_mem_cons.2 ⟨(by kernel_rfl), List.forall_mem_cons.2 ⟨(by kernel_rfl), List.forall_mem_cons.2 ⟨(by kernel_rfl), List.forall_mem_cons.2 ⟨(by kernel_rfl), List.forall_mem_cons.2 ⟨(by kernel_rfl), List.forall_mem_cons.2 ⟨(by kernel_rfl), List.forall_mem_cons.2 ⟨(by kernel_rfl), List.forall_mem_cons.2 ⟨(by kernel_rfl), List.forall_mem_cons.2 ⟨(by kernel_rfl), List.forall_mem_cons.2 ⟨(by kernel_rfl), List.forall_mem_cons.2 ⟨(by kernel_rfl), List.forall_mem_cons.2 ⟨(by kernel_rfl), List.forall_mem_cons.2 ⟨(by kernel_rfl), List.forall_mem_cons.2 ⟨(by kernel_rfl), List.forall_mem_cons.2 ⟨(by kernel_rfl), List.forall_mem_cons.2 ⟨(by kernel_rfl), List.forall_mem_cons.2 ⟨(by kernel_rfl), List.forall_mem_cons.2 ⟨(by kernel_rfl), List.forall_mem_cons.2 ⟨(by kernel_rfl), List.forall_mem_cons.2 ⟨(by kernel_rfl), List.forall_mem_cons.2 ⟨(by kernel_rfl), List.forall_mem_cons.2 ⟨(by kernel_rfl), List.forall_mem_cons.2 ⟨(by kernel_rfl), List.forall_mem_cons.2 ⟨(by kernel_rfl), List.forall_mem_cons.2 ⟨(by kernel_rfl), List.forall_mem_cons.2 ⟨(by kernel_rfl), List.forall_mem_cons.2 ⟨(by kernel_rfl), List.forall_mem_cons.2 ⟨(by kernel_rfl), List.forall_mem_cons.2 ⟨(by kernel_rfl), List.forall_mem_cons.2 ⟨(by kernel_rfl), List.forall_mem_cons.2 ⟨(by kernel_rfl), List.forall_mem_cons.2 ⟨(by kernel_rfl), List.forall_mem_cons.2 ⟨(by kernel_rfl), List.forall_mem_cons.2 ⟨(by kernel_rfl), List.forall_mem_cons.2 ⟨(by kernel_rfl), List.forall_mem_cons.2 ⟨(by kernel_rfl), List.forall_mem_cons.2 ⟨(by kernel_rfl), List.forall_mem_cons.2 ⟨(by kernel_rfl), List.forall_mem_cons.2 ⟨(by kernel_rfl), List.forall_mem_cons.2 ⟨(by kernel_rfl), List.forall_mem_cons.2 ⟨(by kernel_rfl), List.forall_mem_cons.2 ⟨(by kernel_rfl), List.forall_mem_cons.2 ⟨(by kernel_rfl), List.forall_mem_cons.2 ⟨(by kernel_rfl), List.forall_mem_cons.2 ⟨(by kernel_rfl), List.forall_mem_cons.2 ⟨(by kernel_rfl), List.forall_mem_cons.2 ⟨(by kernel_rfl), List.forall_mem_cons.2 ⟨(by kernel_rfl), List.forall_mem_cons.2 ⟨(by kernel_rfl), List.forall_mem_cons.2 ⟨(by kernel_rfl), List.forall_mem_cons.2 ⟨(by kernel_rfl), List.forall_mem_cons.2 ⟨(by kernel_rfl), List.forall_mem_cons.2 ⟨(by kernel_rfl), List.forall_mem_cons.2 ⟨(by kernel_rfl), List.forall_mem_cons.2 ⟨(by kernel_rfl), List.forall_mem_cons.2 ⟨(by kernel_rfl), List.forall_mem_cons.2 ⟨(by kernel_rfl), List.forall_mem_cons.2 ⟨(by kernel_rfl), List.forall_mem_cons.2 ⟨(by kernel_rfl), List.forall_mem_cons.2 ⟨(by kernel_rfl), List.forall_mem_cons.2 ⟨(by kernel_rfl), List.forall_mem_cons.2 ⟨(by kernel_rfl), List.forall_mem_cons.2 ⟨(by kernel_rfl), List.forall_mem_cons.2 ⟨(by kernel_rfl), List.forall_mem_cons.2 ⟨(by kernel_rfl), List.forall_mem_cons.2 ⟨(by kernel_rfl), List.forall_mem_cons.2 ⟨(by kernel_rfl), List.forall_mem_cons.2 ⟨(by kernel_rfl), List.forall_mem_cons.2 ⟨(by kernel_rfl), List.forall_mem_cons.2 ⟨(by kernel_rfl), List.forall_mem_cons.2 ⟨(by kernel_rfl), List.forall_mem_cons.2 ⟨(by kernel_rfl), List.forall_mem_cons.2 ⟨(by kernel_rfl), List.forall_mem_cons.2 ⟨(by kernel_rfl), List.forall_mem_cons.2 ⟨(by kernel_rfl), List.forall_mem_cons.2 ⟨(by kernel_rfl), List.forall_mem_cons.2 ⟨(by kernel_rfl), List.forall_mem_cons.2 ⟨(by kernel_rfl), List.forall_mem_cons.2 ⟨(by kernel_rfl), List.forall_mem_cons.2 ⟨(by kernel_rfl), List.forall_mem_cons.2 ⟨(by kernel_rfl), List.forall_mem_cons.2 ⟨(by kernel_rfl), List.forall_mem_cons.2 ⟨(by kernel_rfl), List.forall_mem_cons.2 ⟨(by kernel_rfl), List.forall_mem_cons.2 ⟨(by kernel_rfl), List.forall_mem_cons.2 ⟨(by kernel_rfl), (fun _ h => absurd h List.not_mem_nil)⟩⟩⟩⟩⟩⟩⟩⟩⟩⟩⟩⟩⟩⟩⟩⟩⟩⟩⟩⟩⟩⟩⟩⟩⟩⟩⟩⟩⟩⟩⟩⟩⟩⟩⟩⟩⟩⟩⟩⟩⟩⟩⟩⟩⟩⟩⟩⟩⟩⟩⟩⟩⟩⟩⟩⟩⟩⟩⟩⟩⟩⟩⟩⟩⟩⟩⟩⟩⟩⟩⟩⟩⟩⟩⟩⟩⟩⟩⟩⟩⟩⟩⟩⟩⟩⟩⟩⟩⟩⟩⟩⟩⟩⟩⟩⟩⟩⟩⟩⟩⟩⟩⟩⟩⟩⟩⟩⟩⟩⟩⟩⟩⟩⟩⟩⟩⟩⟩⟩⟩⟩⟩⟩⟩⟩⟩⟩⟩
theorem good3 : Good fix (lim tab3) := by
  refine ⟨fix_good, fun f d hd vs h r hr => ?_⟩
  exact denF_ok (fun _ _ _ _ q => q) (codes_ok3 (f, d) (get_trOf codes f d hd)) hr

theorem told3 (h : H) : lim tab3 29 [] h = some (.s (.bool true), h) := lim_prim (p := pTrue) (by kernel_rfl) rfl
theorem may3 (h : H) : lim tab3 32 [.agg defconf] h = some (.s (.bool true), h) := lim_prim (p := pTrueAt [.agg defconf]) (by kernel_rfl) (if_pos rfl)

theorem storeCells_call {h : H} {a0 : AV} {bs : List UInt8} (hA : Arg h a0 bs) (pass : Int) : ∃ k h', AM.call tab3 k 5 [a0, .s (.int .u32 pass)] h = some (.s (.bool true), h') := by
  obtain ⟨h', q⟩ := c5 good3 told3 may3 hA pass
  obtain ⟨k, hk⟩ := lim_spec.1 (k5 good3 q)
  exact ⟨k, h', hk⟩
end Go.AM.T20

namespace Go.Proofs.YtfniiaghlkacaaaGreat
open Go.ChangeShapes Go.WideShapes Go.ChangeAt Go.RowKit Go.AM

theorem Tryz.own : ownKnob Tryz.prog.godebug = none := by kernel_rfl
theorem Tryz.laidOut : laidOutB Tryz.prog = true := by kernel_rfl
theorem Tryz.cells5 : Tryz.prog.cellsOf 5 = 1 := by kernel_rfl

set_option maxRecDepth 100000 in
theorem storeCells_lifted (os : Os) (started : os.Started) (H : Type) (enc : TypeId × Value → H) :
    ReturnsInHanded {} Tryz.checked os 5 .any (Rows.storeCellsSpec.pre6 enc Tryz.prog Tryz.f5 Rows.storeCellsRow.domain false) (Rows.storeCellsSpec.post enc Tryz.prog Tryz.f5 false true false false) := by
  refine returnsInHanded_of_change (C := Tryz.checked) Tryz.own started (by kernel_rfl) Tryz.func5
    (ChangeSpec.witness6 (enc := enc) (C := Tryz.checked) false ⟨#[], #[.slice none 0 0, .int .u32 0], []⟩ 8 (by kernel_rfl) (by kernel_rfl) (by kernel_rfl) (by kernel_rfl)) ?_
  intro W base args ds gs before hval0 hW hcnd _
  have hval : ∀ (j : Nat) t v, Tryz.f5.params[j]? = some t → args[j]? = some v → Value.okWide Tryz.prog W .any base t v := hval0
  have hW' := hW
  obtain ⟨p, q, hA0, hV, rfl, hfz, hnd⟩ := hW
  have hA : DataW.TrodAll enc Tryz.prog W 0 (fun _ => true) true Tryz.f5.params.toList args.toList ds p := hA0
  obtain ⟨rfl, rfl⟩ := trodVars_none hV
  rw [Tryz.params5] at hA hval
  obtain ⟨v0, v1, d0, d1, p0, p1, rfl, rfl, rfl, h0, h1⟩ := trodAll_two hA
  obtain ⟨x1, rfl, rfl, rfl, _⟩ := open_int Tryz.underlying65 (hval 1 65 v1 rfl rfl) h1
  have hv0 := hval 0 51 v0 rfl rfl
  obtain ⟨a1, len, cap, rfl⟩ := okWide_slice Tryz.underlying51 hv0
  have fin : ∀ (bs : List UInt8) (ρ : Ren) (h : AM.H) (v : AV), T20.Arg h v bs → Rel ρ h W → VRel ρ v (.slice a1 len cap) → (∀ i, h.nx ≤ i → ρ i = none) → (∀ i, ¬ Own h i) →
      Calls Tryz.prog 5 #[.slice a1 len cap, .int .u32 x1] W fun e W' => e = .returned (.bool true) ∧ Below W.heap.size W W' := by
    intro bs ρ h v ha R V hf ho
    obtain ⟨k, h', hc⟩ := T20.storeCells_call ha x1
    exact run_true T20.all3.tab T20.m5 hc R (xs := [.slice a1 len cap, .int .u32 x1]) (.cons V (.cons rfl .nil)) (fun i hi _ => hf i hi) ho
  have key : Calls Tryz.prog 5 #[.slice a1 len cap, .int .u32 x1] W fun e W' => e = .returned (.bool true) ∧ Below W.heap.size W W' := by
    have h0' := h0
    obtain ⟨fuel, hf⟩ := h0'
    rcases open_ints Tryz.underlying51 Tryz.underlying5 Tryz.cells5 hf with ⟨hcs, hx⟩ | ⟨a, len', cap', zs, hcs, _, hl, hm, hz, hx, hcell, hwz⟩
    · simp [Value.cells] at hcs
      obtain ⟨rfl, rfl, rfl⟩ := hcs
      exact fin [] (fun _ => none) ⟨.nil, 0⟩ (.s (.sl none 0 0 true 1)) (.inl ⟨rfl, rfl⟩) (rel_none W) ⟨rfl, rfl, rfl, rfl⟩ (fun _ _ => rfl) own_none
    · simp [Value.cells] at hcs
      obtain ⟨rfl, rfl, rfl⟩ := hcs
      simp only [if_true] at hz
      have hok : Cell.ok Tryz.prog W .any base 51 (.slice (some a) len cap) := by
        simpa only [Value.okWide, Tryz.underlying51, Cell.okWide] using hv0
      simp only [Cell.ok, Tryz.underlying51] at hok
      obtain ⟨_, _, _, hsp, row, cells, hsh, _⟩ := hok
      simp only [World.shape?] at hsh
      split at hsh
      · rename_i c t fz hb
        obtain ⟨ρ, R, V, hr⟩ := rel_bytes hb hsp hcell (fun n hn => by
          have := hwz n hn
          simp [Lit.wf, IntKind.min, IntKind.max, IntKind.signed, IntKind.bits] at this
          omega)
        have hlen : len ≤ zs.length := by omega
        have hbl : ((zs.map fun n => UInt8.ofNat n.toNat).take len).length = len := by simp; omega
        · refine fin ((zs.map fun n => UInt8.ofNat n.toNat).take len) ρ (heap8 (zs.map fun n => UInt8.ofNat n.toNat)) (.s (.sl (some (0, 0)) len zs.length true 1)) (.inr ⟨0, 0, zs.length, by rw [hbl], by simp [heap8], ?_, by omega⟩) R ?_ (fun i hi => hr i hi) (heap8_own _)
          · rw [hbl]
            rw [T20.cellsAt_heap8 (by simpa using hlen)]
          · rw [← hz]; exact V len hlen
      · cases hsh
  refine key.mono ?_
  rintro e W' ⟨rfl, hB⟩
  refine ⟨_, rfl, post_true Tryz.laidOut hW' rfl rfl ?_ (by kernel_rfl) Tryz.underlying4 hB⟩
  intro t ht
  have hh : (Tryz.f5.params.toList.all fun t => Tryz.prog.readableRec t && decide (t < Tryz.prog.types.size)) = true := by kernel_rfl
  have := List.all_eq_true.1 hh t ht
  simpa using this

theorem storeCells_holds : Rows.StoreCellsSaid :=
  OpenClaim.holds_of_wide 5 Tryz.f5 rfl rfl rfl rfl rfl rfl rfl ⟨rfl, rfl, rfl, rfl, rfl⟩ rfl rfl rfl rfl rfl (by kernel_rfl) Tryz.func5 storeCells_closed
    (of_decide_eq_true (by kernel_rfl)) (by unfold Func.isWrapper; rw [if_neg (by decide +kernel)]; exact ⟨rfl, rfl⟩)
    (fun os started H enc _ => storeCells_lifted os started H enc)

end Go.Proofs.YtfniiaghlkacaaaGreat
