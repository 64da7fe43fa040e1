/- Walks by data and names, part 25: The seat's functions by number (made by program). Walks in short: one way on, two ways on, calls, states: each as one lemma, whose tactic stands here once. Contracts with several ends. -/
import Derived.Test.YtbgcjnfhadhjeaaGreatProg
import Derived.Test.YtbgcjnfhadhjeaaGreatPk24
import Derived.Test.YtbgcjnfhadhjeaaGreatPk23
import Derived.Test.YtbgcjnfhadhjeaaGreatPk22
namespace Go.Proofs.YtbgcjnfhadhjeaaGreat
instance fc3 : Fc Tryz.prog 3 Tryz.f3 105 [.tmp 6] := ⟨Tryz.func3, Tryz.ntmps3, Tryz.results3⟩
instance fc5 : Fc Tryz.prog 5 Tryz.f5 74 [.tmp 4] := ⟨Tryz.func5, Tryz.ntmps5, Tryz.results5⟩
instance fc6 : Fc Tryz.prog 6 Tryz.f6 88 [.tmp 4] := ⟨Tryz.func6, Tryz.ntmps6, Tryz.results6⟩
instance fc8 : Fc Tryz.prog 8 Tryz.f8 100 [.tmp 0] := ⟨Tryz.func8, Tryz.ntmps8, Tryz.results8⟩
instance fc9 : Fc Tryz.prog 9 Tryz.f9 47 [.cell 2 28] := ⟨Tryz.func9, Tryz.ntmps9, Tryz.results9⟩
instance AgQ : Fc Tryz.prog 10 Tryz.f10 141 [.tmp 2] := ⟨Tryz.func10, Tryz.ntmps10, Tryz.results10⟩
instance AgP : Fc Tryz.prog 11 Tryz.f11 174 [.tmp 2] := ⟨Tryz.func11, Tryz.ntmps11, Tryz.results11⟩
instance AgO : Fc Tryz.prog 12 Tryz.f12 105 [.tmp 4] := ⟨Tryz.func12, Tryz.ntmps12, Tryz.results12⟩
instance AgN : Fc Tryz.prog 13 Tryz.f13 97 [.tmp 4] := ⟨Tryz.func13, Tryz.ntmps13, Tryz.results13⟩
instance AgM : Fc Tryz.prog 14 Tryz.f14 35 [.cell 2 23, .cell 3 33] := ⟨Tryz.func14, Tryz.ntmps14, Tryz.results14⟩
instance AgL : Fc Tryz.prog 15 Tryz.f15 26 [.tmp 2] := ⟨Tryz.func15, Tryz.ntmps15, Tryz.results15⟩
instance AgK : Fc Tryz.prog 16 Tryz.f16 26 [.tmp 4] := ⟨Tryz.func16, Tryz.ntmps16, Tryz.results16⟩
instance AgJ : Fc Tryz.prog 17 Tryz.f17 6 [.tmp 2] := ⟨Tryz.func17, Tryz.ntmps17, Tryz.results17⟩
instance AgI : Fc Tryz.prog 18 Tryz.f18 14 [.tmp 2] := ⟨Tryz.func18, Tryz.ntmps18, Tryz.results18⟩
instance AgH : Fc Tryz.prog 19 Tryz.f19 7 [.tmp 2] := ⟨Tryz.func19, Tryz.ntmps19, Tryz.results19⟩
instance AgG : Fc Tryz.prog 21 Tryz.f21 19 [.tmp 2] := ⟨Tryz.func21, Tryz.ntmps21, Tryz.results21⟩
instance AgF : Fc Tryz.prog 22 Tryz.f22 8 [.tmp 2] := ⟨Tryz.func22, Tryz.ntmps22, Tryz.results22⟩
instance AgE : Fc Tryz.prog 26 Tryz.f26 33 [.tmp 2, .tmp 3] := ⟨Tryz.func26, Tryz.ntmps26, Tryz.results26⟩
instance AgD : Fc Tryz.prog 29 Tryz.f29 31 [.tmp 2, .tmp 3] := ⟨Tryz.func29, Tryz.ntmps29, Tryz.results29⟩
instance AgC : Fc Tryz.prog 30 Tryz.f30 21 [.tmp 2] := ⟨Tryz.func30, Tryz.ntmps30, Tryz.results30⟩
instance AgB : Fc Tryz.prog 31 Tryz.f31 2 [.cell 0 28] := ⟨Tryz.func31, Tryz.ntmps31, Tryz.results31⟩
instance AgA : Fc Tryz.prog 32 Tryz.f32 8 [.tmp 2] := ⟨Tryz.func32, Tryz.ntmps32, Tryz.results32⟩
instance Agz : Fc Tryz.prog 33 Tryz.f33 23 [.cell 2 28] := ⟨Tryz.func33, Tryz.ntmps33, Tryz.results33⟩
instance Agy : Fc Tryz.prog 34 Tryz.f34 21 [.tmp 2] := ⟨Tryz.func34, Tryz.ntmps34, Tryz.results34⟩
instance Agx : Fc Tryz.prog 35 Tryz.f35 9 [.tmp 2] := ⟨Tryz.func35, Tryz.ntmps35, Tryz.results35⟩
instance Agw : Fc Tryz.prog 36 Tryz.f36 53 [.tmp 4] := ⟨Tryz.func36, Tryz.ntmps36, Tryz.results36⟩
instance Agv : Fc Tryz.prog 37 Tryz.f37 5 [.tmp 2] := ⟨Tryz.func37, Tryz.ntmps37, Tryz.results37⟩
instance Agu : Fc Tryz.prog 38 Tryz.f38 9 [.tmp 4] := ⟨Tryz.func38, Tryz.ntmps38, Tryz.results38⟩
instance Agt : Fc Tryz.prog 39 Tryz.f39 76 [.cell 2 28] := ⟨Tryz.func39, Tryz.ntmps39, Tryz.results39⟩
instance Ags : Fc Tryz.prog 40 Tryz.f40 9 [.tmp 4] := ⟨Tryz.func40, Tryz.ntmps40, Tryz.results40⟩
instance Agr : Fc Tryz.prog 41 Tryz.f41 6 [.tmp 2] := ⟨Tryz.func41, Tryz.ntmps41, Tryz.results41⟩
instance Agq : Fc Tryz.prog 42 Tryz.f42 16 [.cell 2 33] := ⟨Tryz.func42, Tryz.ntmps42, Tryz.results42⟩
instance Agp : Fc Tryz.prog 43 Tryz.f43 20 [.tmp 3] := ⟨Tryz.func43, Tryz.ntmps43, Tryz.results43⟩
instance Ago : Fc Tryz.prog 44 Tryz.f44 5 [.tmp 2] := ⟨Tryz.func44, Tryz.ntmps44, Tryz.results44⟩
instance Agn : Fc Tryz.prog 45 Tryz.f45 9 [.tmp 4] := ⟨Tryz.func45, Tryz.ntmps45, Tryz.results45⟩
instance Agm : Fc Tryz.prog 46 Tryz.f46 5 [.tmp 2] := ⟨Tryz.func46, Tryz.ntmps46, Tryz.results46⟩
instance Agl : Fc Tryz.prog 47 Tryz.f47 32 [.tmp 6] := ⟨Tryz.func47, Tryz.ntmps47, Tryz.results47⟩
instance Agk : Fc Tryz.prog 48 Tryz.f48 61 [.tmp 4] := ⟨Tryz.func48, Tryz.ntmps48, Tryz.results48⟩
instance Agj : Fc Tryz.prog 49 Tryz.f49 26 [.tmp 4] := ⟨Tryz.func49, Tryz.ntmps49, Tryz.results49⟩
instance Agi : Fc Tryz.prog 50 Tryz.f50 27 [.tmp 4] := ⟨Tryz.func50, Tryz.ntmps50, Tryz.results50⟩
instance Agh : Fc Tryz.prog 51 Tryz.f51 4 [.tmp 2] := ⟨Tryz.func51, Tryz.ntmps51, Tryz.results51⟩
instance Agg : Fc Tryz.prog 52 Tryz.f52 72 [.tmp 4] := ⟨Tryz.func52, Tryz.ntmps52, Tryz.results52⟩
instance Agf : Fc Tryz.prog 53 Tryz.f53 10 [.tmp 2] := ⟨Tryz.func53, Tryz.ntmps53, Tryz.results53⟩
instance Age : Fc Tryz.prog 54 Tryz.f54 13 [.cell 2 99] := ⟨Tryz.func54, Tryz.ntmps54, Tryz.results54⟩
instance Agd : Fc Tryz.prog 59 Tryz.f59 36 [] := ⟨Tryz.func59, Tryz.ntmps59, Tryz.results59⟩
instance Agc : Fc Tryz.prog 63 Tryz.f63 15 [.cell 2 120] := ⟨Tryz.func63, Tryz.ntmps63, Tryz.results63⟩
instance Agb : Fc Tryz.prog 64 Tryz.f64 5 [.tmp 2] := ⟨Tryz.func64, Tryz.ntmps64, Tryz.results64⟩
instance Aga : Fc Tryz.prog 65 Tryz.f65 74 [.cell 6 28] := ⟨Tryz.func65, Tryz.ntmps65, Tryz.results65⟩
instance Af9 : Fc Tryz.prog 66 Tryz.f66 86 [.tmp 2] := ⟨Tryz.func66, Tryz.ntmps66, Tryz.results66⟩
instance Af8 : Fc Tryz.prog 67 Tryz.f67 30 [.tmp 4] := ⟨Tryz.func67, Tryz.ntmps67, Tryz.results67⟩
instance Af7 : Fc Tryz.prog 68 Tryz.f68 9 [.tmp 4] := ⟨Tryz.func68, Tryz.ntmps68, Tryz.results68⟩
instance Af6 : Fc Tryz.prog 69 Tryz.f69 8 [.tmp 3] := ⟨Tryz.func69, Tryz.ntmps69, Tryz.results69⟩
instance Af5 : Fc Tryz.prog 70 Tryz.f70 9 [.tmp 4] := ⟨Tryz.func70, Tryz.ntmps70, Tryz.results70⟩
instance Af4 : Fc Tryz.prog 71 Tryz.f71 8 [.tmp 3] := ⟨Tryz.func71, Tryz.ntmps71, Tryz.results71⟩
instance Af3 : Fc Tryz.prog 72 Tryz.f72 4 [.tmp 2] := ⟨Tryz.func72, Tryz.ntmps72, Tryz.results72⟩
instance Af2 : Fc Tryz.prog 74 Tryz.f74 3 [] := ⟨Tryz.func74, Tryz.ntmps74, Tryz.results74⟩
instance Af1 : Fc Tryz.prog 75 Tryz.f75 70 [] := ⟨Tryz.func75, Tryz.ntmps75, Tryz.results75⟩
instance Af0 : Fc Tryz.prog 76 Tryz.f76 9 [.tmp 4] := ⟨Tryz.func76, Tryz.ntmps76, Tryz.results76⟩
instance AfZ : Fc Tryz.prog 77 Tryz.f77 8 [.tmp 3] := ⟨Tryz.func77, Tryz.ntmps77, Tryz.results77⟩
instance AfY : Fc Tryz.prog 78 Tryz.f78 16 [.cell 4 4] := ⟨Tryz.func78, Tryz.ntmps78, Tryz.results78⟩
instance AfX : Fc Tryz.prog 79 Tryz.f79 8 [.tmp 4] := ⟨Tryz.func79, Tryz.ntmps79, Tryz.results79⟩
instance AfW : Fc Tryz.prog 80 Tryz.f80 9 [.tmp 4] := ⟨Tryz.func80, Tryz.ntmps80, Tryz.results80⟩
instance AfV : Fc Tryz.prog 81 Tryz.f81 8 [.cell 2 135] := ⟨Tryz.func81, Tryz.ntmps81, Tryz.results81⟩
instance AfU : Fc Tryz.prog 82 Tryz.f82 8 [.cell 2 135] := ⟨Tryz.func82, Tryz.ntmps82, Tryz.results82⟩
instance AfT : Fc Tryz.prog 83 Tryz.f83 24 [.tmp 4] := ⟨Tryz.func83, Tryz.ntmps83, Tryz.results83⟩
instance AfS : Fc Tryz.prog 84 Tryz.f84 71 [.tmp 4] := ⟨Tryz.func84, Tryz.ntmps84, Tryz.results84⟩
instance AfR : Fc Tryz.prog 85 Tryz.f85 31 [] := ⟨Tryz.func85, Tryz.ntmps85, Tryz.results85⟩
instance AfQ : Fc Tryz.prog 86 Tryz.f86 15 [.tmp 0] := ⟨Tryz.func86, Tryz.ntmps86, Tryz.results86⟩
instance AfP : Fc Tryz.prog 87 Tryz.f87 19 [.tmp 4] := ⟨Tryz.func87, Tryz.ntmps87, Tryz.results87⟩
instance AfO : Fc Tryz.prog 88 Tryz.f88 8 [.tmp 3] := ⟨Tryz.func88, Tryz.ntmps88, Tryz.results88⟩
instance AfN : Fc Tryz.prog 89 Tryz.f89 19 [.tmp 4] := ⟨Tryz.func89, Tryz.ntmps89, Tryz.results89⟩
instance AfM : Fc Tryz.prog 90 Tryz.f90 9 [.tmp 2] := ⟨Tryz.func90, Tryz.ntmps90, Tryz.results90⟩
instance AfL : Fc Tryz.prog 91 Tryz.f91 22 [.tmp 2] := ⟨Tryz.func91, Tryz.ntmps91, Tryz.results91⟩
instance AfK : Fc Tryz.prog 92 Tryz.f92 16 [.tmp 2] := ⟨Tryz.func92, Tryz.ntmps92, Tryz.results92⟩
instance AfJ : Fc Tryz.prog 93 Tryz.f93 18 [.tmp 2] := ⟨Tryz.func93, Tryz.ntmps93, Tryz.results93⟩
instance AfI : Fc Tryz.prog 94 Tryz.f94 5 [.tmp 2] := ⟨Tryz.func94, Tryz.ntmps94, Tryz.results94⟩
instance AfH : Fc Tryz.prog 95 Tryz.f95 12 [.cell 0 147] := ⟨Tryz.func95, Tryz.ntmps95, Tryz.results95⟩
instance AfG : Fc Tryz.prog 98 Tryz.f98 19 [.tmp 4] := ⟨Tryz.func98, Tryz.ntmps98, Tryz.results98⟩
instance AfF : Fc Tryz.prog 99 Tryz.f99 6 [] := ⟨Tryz.func99, Tryz.ntmps99, Tryz.results99⟩
instance Afv : Fc Tryz.prog 105 Tryz.f105 24 [.tmp 4] := ⟨Tryz.func105, Tryz.ntmps105, Tryz.results105⟩
instance Afu : Fc Tryz.prog 106 Tryz.f106 26 [.tmp 2] := ⟨Tryz.func106, Tryz.ntmps106, Tryz.results106⟩
instance Aft : Fc Tryz.prog 107 Tryz.f107 52 [.cell 2 71] := ⟨Tryz.func107, Tryz.ntmps107, Tryz.results107⟩
instance Afs : Fc Tryz.prog 108 Tryz.f108 19 [.tmp 2] := ⟨Tryz.func108, Tryz.ntmps108, Tryz.results108⟩
instance Afr : Fc Tryz.prog 109 Tryz.f109 19 [.tmp 4] := ⟨Tryz.func109, Tryz.ntmps109, Tryz.results109⟩
instance Afq : Fc Tryz.prog 110 Tryz.f110 19 [.tmp 4] := ⟨Tryz.func110, Tryz.ntmps110, Tryz.results110⟩
instance Afp : Fc Tryz.prog 111 Tryz.f111 23 [] := ⟨Tryz.func111, Tryz.ntmps111, Tryz.results111⟩
instance Afo : Fc Tryz.prog 113 Tryz.f113 5 [] := ⟨Tryz.func113, Tryz.ntmps113, Tryz.results113⟩
instance Afn : Fc Tryz.prog 114 Tryz.f114 27 [.tmp 2] := ⟨Tryz.func114, Tryz.ntmps114, Tryz.results114⟩
instance Afm : Fc Tryz.prog 115 Tryz.f115 9 [.tmp 2] := ⟨Tryz.func115, Tryz.ntmps115, Tryz.results115⟩
instance Afl : Fc Tryz.prog 116 Tryz.f116 69 [.cell 2 71] := ⟨Tryz.func116, Tryz.ntmps116, Tryz.results116⟩
instance Afk : Fc Tryz.prog 117 Tryz.f117 4 [.tmp 2] := ⟨Tryz.func117, Tryz.ntmps117, Tryz.results117⟩
instance Afj : Fc Tryz.prog 118 Tryz.f118 24 [.tmp 2] := ⟨Tryz.func118, Tryz.ntmps118, Tryz.results118⟩
instance Afi : Fc Tryz.prog 119 Tryz.f119 9 [.tmp 2] := ⟨Tryz.func119, Tryz.ntmps119, Tryz.results119⟩
instance Afh : Fc Tryz.prog 120 Tryz.f120 19 [.tmp 4] := ⟨Tryz.func120, Tryz.ntmps120, Tryz.results120⟩
instance Afg : Fc Tryz.prog 121 Tryz.f121 4 [.tmp 2] := ⟨Tryz.func121, Tryz.ntmps121, Tryz.results121⟩
instance Aff : Fc Tryz.prog 122 Tryz.f122 25 [.tmp 4] := ⟨Tryz.func122, Tryz.ntmps122, Tryz.results122⟩
instance Afe : Fc Tryz.prog 123 Tryz.f123 26 [.tmp 4] := ⟨Tryz.func123, Tryz.ntmps123, Tryz.results123⟩
instance Afd : Fc Tryz.prog 124 Tryz.f124 44 [.tmp 4] := ⟨Tryz.func124, Tryz.ntmps124, Tryz.results124⟩
instance Afc : Fc Tryz.prog 125 Tryz.f125 9 [.cell 4 96] := ⟨Tryz.func125, Tryz.ntmps125, Tryz.results125⟩
instance Afb : Fc Tryz.prog 126 Tryz.f126 6 [.tmp 2] := ⟨Tryz.func126, Tryz.ntmps126, Tryz.results126⟩
instance Afa : Fc Tryz.prog 127 Tryz.f127 9 [.cell 4 96] := ⟨Tryz.func127, Tryz.ntmps127, Tryz.results127⟩
instance Ae9 : Fc Tryz.prog 128 Tryz.f128 6 [.tmp 2] := ⟨Tryz.func128, Tryz.ntmps128, Tryz.results128⟩
instance Ae8 : Fc Tryz.prog 129 Tryz.f129 6 [.tmp 2] := ⟨Tryz.func129, Tryz.ntmps129, Tryz.results129⟩
instance Ae7 : Fc Tryz.prog 130 Tryz.f130 6 [.tmp 2] := ⟨Tryz.func130, Tryz.ntmps130, Tryz.results130⟩
instance Ae6 : Fc Tryz.prog 131 Tryz.f131 6 [.tmp 2] := ⟨Tryz.func131, Tryz.ntmps131, Tryz.results131⟩
instance Ae5 : Fc Tryz.prog 132 Tryz.f132 12 [.tmp 4, .tmp 5] := ⟨Tryz.func132, Tryz.ntmps132, Tryz.results132⟩
instance Ae4 : Fc Tryz.prog 133 Tryz.f133 17 [.tmp 4, .tmp 5] := ⟨Tryz.func133, Tryz.ntmps133, Tryz.results133⟩
instance Ae3 : Fc Tryz.prog 134 Tryz.f134 13 [] := ⟨Tryz.func134, Tryz.ntmps134, Tryz.results134⟩
instance Ae2 : Fc Tryz.prog 135 Tryz.f135 20 [.tmp 4, .tmp 5] := ⟨Tryz.func135, Tryz.ntmps135, Tryz.results135⟩
instance Ae1 : Fc Tryz.prog 136 Tryz.f136 8 [.tmp 2, .tmp 3] := ⟨Tryz.func136, Tryz.ntmps136, Tryz.results136⟩
instance Ae0 : Fc Tryz.prog 137 Tryz.f137 14 [.tmp 6, .tmp 7] := ⟨Tryz.func137, Tryz.ntmps137, Tryz.results137⟩
instance AeZ : Fc Tryz.prog 138 Tryz.f138 8 [] := ⟨Tryz.func138, Tryz.ntmps138, Tryz.results138⟩
instance AeY : Fc Tryz.prog 139 Tryz.f139 25 [.tmp 4] := ⟨Tryz.func139, Tryz.ntmps139, Tryz.results139⟩
instance AeX : Fc Tryz.prog 140 Tryz.f140 10 [.tmp 2, .tmp 3, .tmp 4] := ⟨Tryz.func140, Tryz.ntmps140, Tryz.results140⟩
instance AeW : Fc Tryz.prog 141 Tryz.f141 9 [.cell 4 96] := ⟨Tryz.func141, Tryz.ntmps141, Tryz.results141⟩
instance AeV : Fc Tryz.prog 142 Tryz.f142 6 [.tmp 2] := ⟨Tryz.func142, Tryz.ntmps142, Tryz.results142⟩
instance AeU : Fc Tryz.prog 143 Tryz.f143 6 [.tmp 2] := ⟨Tryz.func143, Tryz.ntmps143, Tryz.results143⟩
instance AeT : Fc Tryz.prog 144 Tryz.f144 6 [.tmp 2] := ⟨Tryz.func144, Tryz.ntmps144, Tryz.results144⟩
instance AeS : Fc Tryz.prog 145 Tryz.f145 6 [.tmp 2] := ⟨Tryz.func145, Tryz.ntmps145, Tryz.results145⟩
instance AeR : Fc Tryz.prog 146 Tryz.f146 6 [.tmp 2] := ⟨Tryz.func146, Tryz.ntmps146, Tryz.results146⟩
instance AeQ : Fc Tryz.prog 147 Tryz.f147 6 [.tmp 2] := ⟨Tryz.func147, Tryz.ntmps147, Tryz.results147⟩
instance AeP : Fc Tryz.prog 148 Tryz.f148 10 [.tmp 4] := ⟨Tryz.func148, Tryz.ntmps148, Tryz.results148⟩
instance AeO : Fc Tryz.prog 149 Tryz.f149 88 [.tmp 2] := ⟨Tryz.func149, Tryz.ntmps149, Tryz.results149⟩
instance AeN : Fc Tryz.prog 150 Tryz.f150 10 [.tmp 4] := ⟨Tryz.func150, Tryz.ntmps150, Tryz.results150⟩
instance AeM : Fc Tryz.prog 153 Tryz.f153 12 [.tmp 6, .tmp 7] := ⟨Tryz.func153, Tryz.ntmps153, Tryz.results153⟩
instance AeL : Fc Tryz.prog 154 Tryz.f154 31 [.tmp 4] := ⟨Tryz.func154, Tryz.ntmps154, Tryz.results154⟩
instance AeK : Fc Tryz.prog 158 Tryz.f158 8 [.tmp 2] := ⟨Tryz.func158, Tryz.ntmps158, Tryz.results158⟩
instance AeJ : Fc Tryz.prog 159 Tryz.f159 35 [] := ⟨Tryz.func159, Tryz.ntmps159, Tryz.results159⟩
instance AeI : Fc Tryz.prog 160 Tryz.f160 4 [.tmp 2] := ⟨Tryz.func160, Tryz.ntmps160, Tryz.results160⟩
instance AeH : Fc Tryz.prog 161 Tryz.f161 58 [.tmp 4] := ⟨Tryz.func161, Tryz.ntmps161, Tryz.results161⟩
instance AeG : Fc Tryz.prog 162 Tryz.f162 19 [.tmp 4] := ⟨Tryz.func162, Tryz.ntmps162, Tryz.results162⟩
instance AeF : Fc Tryz.prog 163 Tryz.f163 9 [.tmp 2] := ⟨Tryz.func163, Tryz.ntmps163, Tryz.results163⟩
instance AeE : Fc Tryz.prog 164 Tryz.f164 10 [.tmp 2] := ⟨Tryz.func164, Tryz.ntmps164, Tryz.results164⟩
instance AeD : Fc Tryz.prog 165 Tryz.f165 22 [] := ⟨Tryz.func165, Tryz.ntmps165, Tryz.results165⟩
instance AeC : Fc Tryz.prog 166 Tryz.f166 9 [.tmp 2] := ⟨Tryz.func166, Tryz.ntmps166, Tryz.results166⟩
instance AeB : Fc Tryz.prog 167 Tryz.f167 26 [] := ⟨Tryz.func167, Tryz.ntmps167, Tryz.results167⟩
instance AeA : Fc Tryz.prog 168 Tryz.f168 18 [.tmp 2] := ⟨Tryz.func168, Tryz.ntmps168, Tryz.results168⟩
instance Aez : Fc Tryz.prog 169 Tryz.f169 20 [.tmp 4] := ⟨Tryz.func169, Tryz.ntmps169, Tryz.results169⟩
instance Aey : Fc Tryz.prog 170 Tryz.f170 20 [.tmp 4] := ⟨Tryz.func170, Tryz.ntmps170, Tryz.results170⟩
instance Aex : Fc Tryz.prog 171 Tryz.f171 15 [.tmp 5, .tmp 6] := ⟨Tryz.func171, Tryz.ntmps171, Tryz.results171⟩
instance Aew : Fc Tryz.prog 172 Tryz.f172 12 [.tmp 6, .tmp 7] := ⟨Tryz.func172, Tryz.ntmps172, Tryz.results172⟩
instance Aev : Fc Tryz.prog 173 Tryz.f173 11 [] := ⟨Tryz.func173, Tryz.ntmps173, Tryz.results173⟩
instance Aeu : Fc Tryz.prog 174 Tryz.f174 16 [.tmp 5, .tmp 6] := ⟨Tryz.func174, Tryz.ntmps174, Tryz.results174⟩
instance Aet : Fc Tryz.prog 175 Tryz.f175 12 [] := ⟨Tryz.func175, Tryz.ntmps175, Tryz.results175⟩
instance Aes : Fc Tryz.prog 176 Tryz.f176 20 [.tmp 4] := ⟨Tryz.func176, Tryz.ntmps176, Tryz.results176⟩
instance Aer : Fc Tryz.prog 177 Tryz.f177 35 [.tmp 4] := ⟨Tryz.func177, Tryz.ntmps177, Tryz.results177⟩
instance Aeq : Fc Tryz.prog 178 Tryz.f178 17 [.tmp 2, .tmp 3] := ⟨Tryz.func178, Tryz.ntmps178, Tryz.results178⟩
instance Aep : Fc Tryz.prog 179 Tryz.f179 27 [] := ⟨Tryz.func179, Tryz.ntmps179, Tryz.results179⟩
instance Aeo : Fc Tryz.prog 180 Tryz.f180 8 [] := ⟨Tryz.func180, Tryz.ntmps180, Tryz.results180⟩
instance Aen : Fc Tryz.prog 181 Tryz.f181 26 [] := ⟨Tryz.func181, Tryz.ntmps181, Tryz.results181⟩
instance Aem : Fc Tryz.prog 182 Tryz.f182 37 [] := ⟨Tryz.func182, Tryz.ntmps182, Tryz.results182⟩
instance Ael : Fc Tryz.prog 183 Tryz.f183 44 [.tmp 4, .tmp 5, .tmp 6] := ⟨Tryz.func183, Tryz.ntmps183, Tryz.results183⟩
instance Aek : Fc Tryz.prog 184 Tryz.f184 14 [.tmp 2] := ⟨Tryz.func184, Tryz.ntmps184, Tryz.results184⟩
instance Aej : Fc Tryz.prog 185 Tryz.f185 20 [.tmp 4] := ⟨Tryz.func185, Tryz.ntmps185, Tryz.results185⟩
instance Aei : Fc Tryz.prog 186 Tryz.f186 5 [.tmp 2] := ⟨Tryz.func186, Tryz.ntmps186, Tryz.results186⟩
instance Aeh : Fc Tryz.prog 187 Tryz.f187 6 [.tmp 4] := ⟨Tryz.func187, Tryz.ntmps187, Tryz.results187⟩
instance Aeg : Fc Tryz.prog 188 Tryz.f188 23 [.tmp 5, .tmp 6] := ⟨Tryz.func188, Tryz.ntmps188, Tryz.results188⟩
instance Aef : Fc Tryz.prog 189 Tryz.f189 8 [.tmp 2, .tmp 3] := ⟨Tryz.func189, Tryz.ntmps189, Tryz.results189⟩
instance Aee : Fc Tryz.prog 190 Tryz.f190 11 [] := ⟨Tryz.func190, Tryz.ntmps190, Tryz.results190⟩
instance Aed : Fc Tryz.prog 191 Tryz.f191 25 [.cell 4 26] := ⟨Tryz.func191, Tryz.ntmps191, Tryz.results191⟩
instance Aec : Fc Tryz.prog 192 Tryz.f192 10 [.cell 2 26, .tmp 3, .tmp 4] := ⟨Tryz.func192, Tryz.ntmps192, Tryz.results192⟩
instance Aeb : Fc Tryz.prog 193 Tryz.f193 15 [.tmp 2] := ⟨Tryz.func193, Tryz.ntmps193, Tryz.results193⟩
instance Aea : Fc Tryz.prog 194 Tryz.f194 20 [.tmp 4] := ⟨Tryz.func194, Tryz.ntmps194, Tryz.results194⟩
instance Ad9 : Fc Tryz.prog 195 Tryz.f195 12 [.tmp 2] := ⟨Tryz.func195, Tryz.ntmps195, Tryz.results195⟩
instance Ad8 : Fc Tryz.prog 196 Tryz.f196 5 [.tmp 2] := ⟨Tryz.func196, Tryz.ntmps196, Tryz.results196⟩
instance Ad7 : Fc Tryz.prog 197 Tryz.f197 19 [.tmp 4] := ⟨Tryz.func197, Tryz.ntmps197, Tryz.results197⟩
instance Ad6 : Fc Tryz.prog 199 Tryz.f199 30 [.tmp 3] := ⟨Tryz.func199, Tryz.ntmps199, Tryz.results199⟩
instance Ad5 : Fc Tryz.prog 200 Tryz.f200 8 [] := ⟨Tryz.func200, Tryz.ntmps200, Tryz.results200⟩
instance Ad4 : Fc Tryz.prog 201 Tryz.f201 9 [.tmp 2] := ⟨Tryz.func201, Tryz.ntmps201, Tryz.results201⟩
instance Ad3 : Fc Tryz.prog 202 Tryz.f202 19 [.tmp 2] := ⟨Tryz.func202, Tryz.ntmps202, Tryz.results202⟩
instance Ad2 : Fc Tryz.prog 205 Tryz.f205 16 [.tmp 4] := ⟨Tryz.func205, Tryz.ntmps205, Tryz.results205⟩
instance Ad1 : Fc Tryz.prog 206 Tryz.f206 25 [] := ⟨Tryz.func206, Tryz.ntmps206, Tryz.results206⟩
instance Ad0 : Fc Tryz.prog 207 Tryz.f207 26 [.cell 0 266] := ⟨Tryz.func207, Tryz.ntmps207, Tryz.results207⟩
instance AdZ : Fc Tryz.prog 208 Tryz.f208 6 [.tmp 2] := ⟨Tryz.func208, Tryz.ntmps208, Tryz.results208⟩
instance AdY : Fc Tryz.prog 209 Tryz.f209 6 [.tmp 2] := ⟨Tryz.func209, Tryz.ntmps209, Tryz.results209⟩
instance AdX : Fc Tryz.prog 211 Tryz.f211 9 [.tmp 3] := ⟨Tryz.func211, Tryz.ntmps211, Tryz.results211⟩
instance AdW : Fc Tryz.prog 213 Tryz.f213 5 [] := ⟨Tryz.func213, Tryz.ntmps213, Tryz.results213⟩
instance AdV : Fc Tryz.prog 214 Tryz.f214 17 [] := ⟨Tryz.func214, Tryz.ntmps214, Tryz.results214⟩
instance AdU : Fc Tryz.prog 215 Tryz.f215 16 [.cell 0 278] := ⟨Tryz.func215, Tryz.ntmps215, Tryz.results215⟩
instance AdT : Fc Tryz.prog 216 Tryz.f216 12 [.tmp 2, .tmp 3] := ⟨Tryz.func216, Tryz.ntmps216, Tryz.results216⟩
instance AdS : Fc Tryz.prog 217 Tryz.f217 8 [] := ⟨Tryz.func217, Tryz.ntmps217, Tryz.results217⟩
instance AdR : Fc Tryz.prog 218 Tryz.f218 11 [.tmp 2] := ⟨Tryz.func218, Tryz.ntmps218, Tryz.results218⟩
instance AdQ : Fc Tryz.prog 219 Tryz.f219 8 [.tmp 4] := ⟨Tryz.func219, Tryz.ntmps219, Tryz.results219⟩
instance AdP : Fc Tryz.prog 220 Tryz.f220 9 [.tmp 2] := ⟨Tryz.func220, Tryz.ntmps220, Tryz.results220⟩
instance AdO : Fc Tryz.prog 221 Tryz.f221 13 [.tmp 4] := ⟨Tryz.func221, Tryz.ntmps221, Tryz.results221⟩
instance AdN : Fc Tryz.prog 222 Tryz.f222 13 [] := ⟨Tryz.func222, Tryz.ntmps222, Tryz.results222⟩
instance AdM : Fc Tryz.prog 223 Tryz.f223 60 [.cell 2 71] := ⟨Tryz.func223, Tryz.ntmps223, Tryz.results223⟩
instance AdL : Fc Tryz.prog 224 Tryz.f224 19 [] := ⟨Tryz.func224, Tryz.ntmps224, Tryz.results224⟩
instance AdK : Fc Tryz.prog 225 Tryz.f225 44 [.cell 4 26, .tmp 5, .tmp 6] := ⟨Tryz.func225, Tryz.ntmps225, Tryz.results225⟩
instance AdJ : Fc Tryz.prog 226 Tryz.f226 21 [.cell 2 26] := ⟨Tryz.func226, Tryz.ntmps226, Tryz.results226⟩
instance AdI : Fc Tryz.prog 227 Tryz.f227 14 [.tmp 4] := ⟨Tryz.func227, Tryz.ntmps227, Tryz.results227⟩
instance AdH : Fc Tryz.prog 228 Tryz.f228 21 [.tmp 4] := ⟨Tryz.func228, Tryz.ntmps228, Tryz.results228⟩
instance AdG : Fc Tryz.prog 234 Tryz.f234 15 [.tmp 4] := ⟨Tryz.func234, Tryz.ntmps234, Tryz.results234⟩
instance AdF : Fc Tryz.prog 248 Tryz.f248 14 [] := ⟨Tryz.func248, Tryz.ntmps248, Tryz.results248⟩
instance AdE : Fc Tryz.prog 249 Tryz.f249 14 [] := ⟨Tryz.func249, Tryz.ntmps249, Tryz.results249⟩
instance AdD : Fc Tryz.prog 250 Tryz.f250 25 [] := ⟨Tryz.func250, Tryz.ntmps250, Tryz.results250⟩
instance AdC : Fc Tryz.prog 251 Tryz.f251 8 [] := ⟨Tryz.func251, Tryz.ntmps251, Tryz.results251⟩
instance AdB : Fc Tryz.prog 252 Tryz.f252 8 [] := ⟨Tryz.func252, Tryz.ntmps252, Tryz.results252⟩
instance AdA : Fc Tryz.prog 253 Tryz.f253 86 [] := ⟨Tryz.func253, Tryz.ntmps253, Tryz.results253⟩
instance Adz : Fc Tryz.prog 254 Tryz.f254 39 [.tmp 4] := ⟨Tryz.func254, Tryz.ntmps254, Tryz.results254⟩
instance Ady : Fc Tryz.prog 255 Tryz.f255 25 [.tmp 2] := ⟨Tryz.func255, Tryz.ntmps255, Tryz.results255⟩
instance Adx : Fc Tryz.prog 256 Tryz.f256 23 [.tmp 4] := ⟨Tryz.func256, Tryz.ntmps256, Tryz.results256⟩
instance Adw : Fc Tryz.prog 257 Tryz.f257 33 [] := ⟨Tryz.func257, Tryz.ntmps257, Tryz.results257⟩
instance Adv : Fc Tryz.prog 258 Tryz.f258 8 [] := ⟨Tryz.func258, Tryz.ntmps258, Tryz.results258⟩
instance Adu : Fc Tryz.prog 259 Tryz.f259 25 [.tmp 4] := ⟨Tryz.func259, Tryz.ntmps259, Tryz.results259⟩
instance Adt : Fc Tryz.prog 271 Tryz.f271 23 [] := ⟨Tryz.func271, Tryz.ntmps271, Tryz.results271⟩
instance Ads : Fc Tryz.prog 272 Tryz.f272 41 [] := ⟨Tryz.func272, Tryz.ntmps272, Tryz.results272⟩
instance Adr : Fc Tryz.prog 309 Tryz.f309 9 [] := ⟨Tryz.func309, Tryz.ntmps309, Tryz.results309⟩
instance Adq : Fc Tryz.prog 310 Tryz.f310 21 [] := ⟨Tryz.func310, Tryz.ntmps310, Tryz.results310⟩

set_option maxRecDepth 20000
open Go.RowKit
theorem Al {g g' : Prop} (k : g') (h : g' → g := by
  intro k
  first
  | ((with_reducible refine QZ ?_)
     first
     | ((with_reducible refine Aa6 ?_); exact AaZ k)
     | (refine Se 0 ?_; exact AaY k)
     | (refine Se 3 ?_; exact AaW k)
     | (refine Se 1 ?_; first | exact AaX k | exact Y7 k)
     | (refine Se 2 ?_; exact AaV k)
     | (refine Se 5 ?_; exact AcM k)
     | (refine Se 6 ?_; exact HV k))
  | ((with_reducible refine Q4 ?_)
     first
     | with_reducible exact WM k
     | ((with_reducible refine Abb ?_); exact WJ k)
     | (refine Tu 0 ?_; exact WK k)
     | (refine Tu 3 ?_; first | exact Tr k | exact Sg k)
     | (refine Tu 1 ?_; first | exact Ts k | exact Ts k (h := Uy) | exact Zd k (h := Uy) | exact Aba k | exact Zd k)
     | (refine Tu 2 ?_; first | exact Ts k | exact Zd k | exact WP k | exact Tv k | exact Zg k | exact WO k)
     | (refine Tu 6 ?_; exact WK k))) : g := h k
theorem Ay {g : Prop} (k : g) (_h : g → g := by first | with_reducible exact QZ | with_reducible exact Q4) : g := k
theorem Ad {g g' : Prop} (k : g') (h : g' → g := by intro k; first | exact Tb k | exact S9 k) : g := h k
theorem xo {p g : Prop} (h : p) (k : p → g := by intro h; exfalso; (try simp only [decide_eq_true_eq, decide_eq_false_iff_not] at h); omega) : g := k h
theorem Ak {g g' : Prop} (k : g') (h : g' → g := by
 intro k
 first
 | with_reducible exact AC k
 | ((with_reducible refine WB ?_); exact Ok k)
 | ((with_reducible refine S6 ?_); first | exact S3 k | exact S5 k)
 | ((with_reducible refine Abo ?_); first | exact AcR k | exact AcT k)
 | ((with_reducible refine Zt ?_); exact Zs rfl k)
 | ((with_reducible refine Abu ?_); exact Zz k)
 | ((with_reducible refine Vk ?_); exact ZV k)
 | ((with_reducible refine Vn ?_); exact ZY k)
 | with_reducible (refine NX.go ?_; constructor; exact k)
 | with_reducible exact XQ rfl k
 | with_reducible exact XP rfl k
 | ((with_reducible refine XO ?_); exact AbN k)
 | ((with_reducible refine Vo ?_); exact ZZ k)
 | ((with_reducible refine Vm ?_); first | exact ZX (by assumption) k | exact XM k | exact XK k | exact XL (by assumption) k)
 | ((with_reducible refine Vl ?_); first | exact ZW (by assumption) k | exact XJ k | exact XI k)) : g := h k
theorem nc {g g1 g2 : Prop} (k1 : g1) (k2 : g2) (h : g1 → g2 → g := by
 intro k1 k2
 first
 | ((with_reducible refine QZ ?_); (fail_if_success (refine Y5 ?_)); first | exact WE k1 k2 | exact Td k1 k2)
 | ((with_reducible refine S6 ?_); first | exact AaT k1 k2 | exact AaU k1 k2)) : g := h k1 k2
theorem nd {g g1 g2 : Prop} (k1 : g1) (k2 : g2) (h : g1 → g2 → g := by
 intro k1 k2
 (with_reducible refine Q4 ?_); (fail_if_success (refine Zf ?_)); exact WN k1 k2) : g := h k1 k2
theorem YF {P : Program} {f : FuncId} {ds : List D} {d : D} {g : Prop} (_ : VP P f ds (· = .ret d)) (h : g) : g := h
theorem YG {P : Program} {f : FuncId} {ds : List D} {e : TypeId} {sz : Nat} {l : List (List D)} {g : Prop} (_ : VP P f ds (· = .own e sz l)) (h : g) : g := h
theorem AbY {P : Program} {f : FuncId} {ds : List D} {d : D} {g : Prop} (_ : VP P f ds (· = .panic d)) (h : g) : g := h
theorem cz {g g' : Prop} {P : Program} {f : FuncId} {ds : List D} {post : R → Prop} (c : VP P f ds post) (k : g') (h : VP P f ds post → g' → g := by
  intro c k
  first
  | ((with_reducible refine QZ ?_); refine AK c ?_
     first
     | ((with_reducible refine YF c ?_); first | exact Ag c k (h := T2) | exact Ag c k (h := Rk))
     | ((with_reducible refine YG c ?_); first | exact Ag c k (h := T3) | exact Ag c k (h := OK))
     | ((with_reducible refine AbY c ?_); first | exact An c k | exact Ta c k)
     | exact Ag c k)
  | ((with_reducible refine Q4 ?_); refine AcN c ?_
     first
     | ((with_reducible refine YF c ?_); first | exact Tt c k | exact Q3 c k)
     | ((with_reducible refine YG c ?_); first | exact WL c k | exact Ze c k | exact Q3 c k)
     | exact Tt c k)) : g := h c k
theorem AI {cx : Cx} {tm tm' : List (Nat × V)} {st st' : List E} {nb nb' : Nat} (h1 : TmR nb' [] st tm tm' := by ((repeat' (first | exact trivial | exact Dr | refine CF ?_ ?_ | exact Dt | exact EL | exact Dp rfl | exact Dn rfl rfl | exact CE rfl rfl | refine Du ?_ | refine Dm ?_ | refine Ds ?_ | refine EJ ?_ ?_ | exact EI | exact Dq | exact EK | exact EH rfl | exact EG rfl | refine ⟨⟨rfl, _, rfl, ?_⟩, ?_⟩ | exact GE rfl (by infer_instance) | refine ⟨⟨_, rfl, ?_⟩, ?_⟩ | refine ⟨⟨rfl, .inl ⟨rfl, _, _, rfl, rfl⟩⟩, ?_⟩ | refine ⟨⟨rfl, .inr ⟨rfl, rfl, rfl⟩⟩, ?_⟩ | refine ⟨⟨rfl, _, rfl, ?_⟩, ?_⟩ | refine ⟨?_, ?_⟩)); fail_if_success (focus skip))) (h2 : Jf nb' [] st st' := by ((repeat' (first | exact trivial | exact Dr | refine CF ?_ ?_ | exact Dt | exact EL | exact Dp rfl | exact Dn rfl rfl | exact CE rfl rfl | refine Du ?_ | refine Dm ?_ | refine Ds ?_ | refine EJ ?_ ?_ | exact EI | exact Dq | exact EK | exact EH rfl | exact EG rfl | refine ⟨⟨rfl, _, rfl, ?_⟩, ?_⟩ | exact GE rfl (by infer_instance) | refine ⟨⟨_, rfl, ?_⟩, ?_⟩ | refine ⟨⟨rfl, .inl ⟨rfl, _, _, rfl, rfl⟩⟩, ?_⟩ | refine ⟨⟨rfl, .inr ⟨rfl, rfl, rfl⟩⟩, ?_⟩ | refine ⟨⟨rfl, _, rfl, ?_⟩, ?_⟩ | refine ⟨?_, ?_⟩)); fail_if_success (focus skip))) (hd : DfR nb' [] st cx.df := by ((repeat' (first | exact trivial | exact Dr | refine CF ?_ ?_ | exact Dt | exact EL | exact Dp rfl | exact Dn rfl rfl | exact CE rfl rfl | refine Du ?_ | refine Dm ?_ | refine Ds ?_ | refine EJ ?_ ?_ | exact EI | exact Dq | exact EK | exact EH rfl | exact EG rfl | refine ⟨⟨rfl, _, rfl, ?_⟩, ?_⟩ | exact GE rfl (by infer_instance) | refine ⟨⟨_, rfl, ?_⟩, ?_⟩ | refine ⟨⟨rfl, .inl ⟨rfl, _, _, rfl, rfl⟩⟩, ?_⟩ | refine ⟨⟨rfl, .inr ⟨rfl, rfl, rfl⟩⟩, ?_⟩ | refine ⟨⟨rfl, _, rfl, ?_⟩, ?_⟩ | refine ⟨?_, ?_⟩)); fail_if_success (focus skip))) (hρ : GF cx.m [] = true := by rfl) (h3 : Nat.ble cx.m nb' = true := by rfl) : Sb cx ⟨tm, st, nb⟩ ⟨tm', st', nb'⟩ := Rc [] h1 h2 hd hρ h3
theorem CO {cx : Cx} {tm tm' : List (Nat × V)} {st st' : List E} {nb nb' : Nat} (ρ : Ren) (h1 : TmR nb' ρ st tm tm' := by ((repeat' (first | exact trivial | exact Dr | refine CF ?_ ?_ | exact Dt | exact EL | exact Dp rfl | exact Dn rfl rfl | exact CE rfl rfl | refine Du ?_ | refine Dm ?_ | refine Ds ?_ | refine EJ ?_ ?_ | exact EI | exact Dq | exact EK | exact EH rfl | exact EG rfl | refine ⟨⟨rfl, _, rfl, ?_⟩, ?_⟩ | exact GE rfl (by infer_instance) | refine ⟨⟨_, rfl, ?_⟩, ?_⟩ | refine ⟨⟨rfl, .inl ⟨rfl, _, _, rfl, rfl⟩⟩, ?_⟩ | refine ⟨⟨rfl, .inr ⟨rfl, rfl, rfl⟩⟩, ?_⟩ | refine ⟨⟨rfl, _, rfl, ?_⟩, ?_⟩ | refine ⟨?_, ?_⟩)); fail_if_success (focus skip))) (h2 : Jf nb' ρ st st' := by ((repeat' (first | exact trivial | exact Dr | refine CF ?_ ?_ | exact Dt | exact EL | exact Dp rfl | exact Dn rfl rfl | exact CE rfl rfl | refine Du ?_ | refine Dm ?_ | refine Ds ?_ | refine EJ ?_ ?_ | exact EI | exact Dq | exact EK | exact EH rfl | exact EG rfl | refine ⟨⟨rfl, _, rfl, ?_⟩, ?_⟩ | exact GE rfl (by infer_instance) | refine ⟨⟨_, rfl, ?_⟩, ?_⟩ | refine ⟨⟨rfl, .inl ⟨rfl, _, _, rfl, rfl⟩⟩, ?_⟩ | refine ⟨⟨rfl, .inr ⟨rfl, rfl, rfl⟩⟩, ?_⟩ | refine ⟨⟨rfl, _, rfl, ?_⟩, ?_⟩ | refine ⟨?_, ?_⟩)); fail_if_success (focus skip))) (hd : DfR nb' ρ st cx.df := by ((repeat' (first | exact trivial | exact Dr | refine CF ?_ ?_ | exact Dt | exact EL | exact Dp rfl | exact Dn rfl rfl | exact CE rfl rfl | refine Du ?_ | refine Dm ?_ | refine Ds ?_ | refine EJ ?_ ?_ | exact EI | exact Dq | exact EK | exact EH rfl | exact EG rfl | refine ⟨⟨rfl, _, rfl, ?_⟩, ?_⟩ | exact GE rfl (by infer_instance) | refine ⟨⟨_, rfl, ?_⟩, ?_⟩ | refine ⟨⟨rfl, .inl ⟨rfl, _, _, rfl, rfl⟩⟩, ?_⟩ | refine ⟨⟨rfl, .inr ⟨rfl, rfl, rfl⟩⟩, ?_⟩ | refine ⟨⟨rfl, _, rfl, ?_⟩, ?_⟩ | refine ⟨?_, ?_⟩)); fail_if_success (focus skip))) (hρ : GF cx.m ρ = true := by first | rfl | decide) (h3 : Nat.ble cx.m nb' = true := by rfl) : Sb cx ⟨tm, st, nb⟩ ⟨tm', st', nb'⟩ := Rc ρ h1 h2 hd hρ h3

theorem VM.sub1 {P : Program} {f : FuncId} {m : Nat} {vs : List V} {st : List E} {nb nb' : Nat} {r : RC} {st' : List E} (h : VM P f m vs st nb (Gn m r st' nb')) : C6 P f m vs st nb r st' nb' := fun B => by
 have hv := h B
 refine ⟨hv.1, fun g w us h1 h2 h3 => (hv.2 g w us h1 h2 h3).mono ?_⟩
 rintro e w' ⟨g1, st1, nb1, r1, k1, k2, k3, k4, k5, k6⟩
 obtain ⟨g2, q1, q2, q3, q4, q5⟩ := k5 B g1 w' e k2 k3 k4
 exact ⟨g2, st', nb', r, k1.trans2 q1, q2, q3, q4, ⟨rfl, rfl, rfl⟩, q5⟩
section
variable {P : Program} {cx : Cx} {Q : VE → St → Prop} {tm : List (Nat × V)} {st : List E} {nb : Nat}
theorem Nh {c : Code} {nw : Bool} {ver : Nat} {e : TypeId} {sz : Nat} {l : List (List D)} (k : Nat) (hr : AB k st = some (true, nw, ver, e, sz, l)) (h : VW P cx c ⟨tm, .r false nw k ver e sz l :: st, nb⟩ Q) : VW P cx c ⟨tm, st, nb⟩ Q := fun n g0 w0 g a w hE hS => by
 obtain ⟨g', h1, h2, h3⟩ := Lv hS.inv hS.st hr
 exact h n g0 w0 g' a w (hE.trans h1) (hS.same h1 h2 h3)
end

end Go.Proofs.YtbgcjnfhadhjeaaGreat