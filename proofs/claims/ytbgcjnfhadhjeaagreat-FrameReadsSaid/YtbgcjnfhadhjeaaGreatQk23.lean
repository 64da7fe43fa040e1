/- Walks by data and names, part 23: The seat's functions by number (made by program). Walks in short: one way on, two ways on, calls, states: each as one lemma, whose tactic stands here once. Contracts with several ends. -/
import Derived.Test.YtbgcjnfhadhjeaaGreatProg
import Derived.Test.YtbgcjnfhadhjeaaGreatQk22
import Derived.Test.YtbgcjnfhadhjeaaGreatQk20
import Derived.Test.YtbgcjnfhadhjeaaGreatQk19
namespace Go.Proofs.YtbgcjnfhadhjeaaGreat
instance fc4 : Fc Tryz.prog 4 Tryz.f4 88 [.tmp 2] := ⟨Tryz.func4, Tryz.ntmps4, Tryz.results4⟩
instance fc8 : Fc Tryz.prog 8 Tryz.f8 100 [.tmp 0] := ⟨Tryz.func8, Tryz.ntmps8, Tryz.results8⟩
instance Ag9 : Fc Tryz.prog 10 Tryz.f10 141 [.tmp 2] := ⟨Tryz.func10, Tryz.ntmps10, Tryz.results10⟩
instance Ag8 : Fc Tryz.prog 11 Tryz.f11 174 [.tmp 2] := ⟨Tryz.func11, Tryz.ntmps11, Tryz.results11⟩
instance Ag7 : Fc Tryz.prog 12 Tryz.f12 105 [.tmp 4] := ⟨Tryz.func12, Tryz.ntmps12, Tryz.results12⟩
instance Ag6 : Fc Tryz.prog 13 Tryz.f13 97 [.tmp 4] := ⟨Tryz.func13, Tryz.ntmps13, Tryz.results13⟩
instance Ag5 : Fc Tryz.prog 14 Tryz.f14 35 [.cell 2 23, .cell 3 33] := ⟨Tryz.func14, Tryz.ntmps14, Tryz.results14⟩
instance Ag4 : Fc Tryz.prog 16 Tryz.f16 26 [.tmp 4] := ⟨Tryz.func16, Tryz.ntmps16, Tryz.results16⟩
instance Ag3 : Fc Tryz.prog 17 Tryz.f17 6 [.tmp 2] := ⟨Tryz.func17, Tryz.ntmps17, Tryz.results17⟩
instance Ag2 : Fc Tryz.prog 19 Tryz.f19 7 [.tmp 2] := ⟨Tryz.func19, Tryz.ntmps19, Tryz.results19⟩
instance Ag1 : Fc Tryz.prog 21 Tryz.f21 19 [.tmp 2] := ⟨Tryz.func21, Tryz.ntmps21, Tryz.results21⟩
instance Ag0 : Fc Tryz.prog 22 Tryz.f22 8 [.tmp 2] := ⟨Tryz.func22, Tryz.ntmps22, Tryz.results22⟩
instance AgZ : Fc Tryz.prog 24 Tryz.f24 63 [.cell 2 28, .tmp 3] := ⟨Tryz.func24, Tryz.ntmps24, Tryz.results24⟩
instance AgY : Fc Tryz.prog 26 Tryz.f26 33 [.tmp 2, .tmp 3] := ⟨Tryz.func26, Tryz.ntmps26, Tryz.results26⟩
instance AgX : Fc Tryz.prog 27 Tryz.f27 32 [.tmp 6] := ⟨Tryz.func27, Tryz.ntmps27, Tryz.results27⟩
instance AgW : Fc Tryz.prog 29 Tryz.f29 31 [.tmp 2, .tmp 3] := ⟨Tryz.func29, Tryz.ntmps29, Tryz.results29⟩
instance AgV : Fc Tryz.prog 30 Tryz.f30 21 [.tmp 2] := ⟨Tryz.func30, Tryz.ntmps30, Tryz.results30⟩
instance AgU : Fc Tryz.prog 31 Tryz.f31 2 [.cell 0 28] := ⟨Tryz.func31, Tryz.ntmps31, Tryz.results31⟩
instance AgT : Fc Tryz.prog 32 Tryz.f32 8 [.tmp 2] := ⟨Tryz.func32, Tryz.ntmps32, Tryz.results32⟩
instance AgS : Fc Tryz.prog 33 Tryz.f33 23 [.cell 2 28] := ⟨Tryz.func33, Tryz.ntmps33, Tryz.results33⟩
instance AgR : Fc Tryz.prog 34 Tryz.f34 21 [.tmp 2] := ⟨Tryz.func34, Tryz.ntmps34, Tryz.results34⟩
instance AgQ : Fc Tryz.prog 35 Tryz.f35 9 [.tmp 2] := ⟨Tryz.func35, Tryz.ntmps35, Tryz.results35⟩
instance AgP : Fc Tryz.prog 36 Tryz.f36 53 [.tmp 4] := ⟨Tryz.func36, Tryz.ntmps36, Tryz.results36⟩
instance AgO : Fc Tryz.prog 37 Tryz.f37 5 [.tmp 2] := ⟨Tryz.func37, Tryz.ntmps37, Tryz.results37⟩
instance AgN : Fc Tryz.prog 38 Tryz.f38 9 [.tmp 4] := ⟨Tryz.func38, Tryz.ntmps38, Tryz.results38⟩
instance AgM : Fc Tryz.prog 39 Tryz.f39 76 [.cell 2 28] := ⟨Tryz.func39, Tryz.ntmps39, Tryz.results39⟩
instance AgL : Fc Tryz.prog 40 Tryz.f40 9 [.tmp 4] := ⟨Tryz.func40, Tryz.ntmps40, Tryz.results40⟩
instance AgK : Fc Tryz.prog 41 Tryz.f41 6 [.tmp 2] := ⟨Tryz.func41, Tryz.ntmps41, Tryz.results41⟩
instance AgJ : Fc Tryz.prog 42 Tryz.f42 16 [.cell 2 33] := ⟨Tryz.func42, Tryz.ntmps42, Tryz.results42⟩
instance AgI : Fc Tryz.prog 43 Tryz.f43 20 [.tmp 3] := ⟨Tryz.func43, Tryz.ntmps43, Tryz.results43⟩
instance AgH : Fc Tryz.prog 44 Tryz.f44 5 [.tmp 2] := ⟨Tryz.func44, Tryz.ntmps44, Tryz.results44⟩
instance AgG : Fc Tryz.prog 45 Tryz.f45 9 [.tmp 4] := ⟨Tryz.func45, Tryz.ntmps45, Tryz.results45⟩
instance AgF : Fc Tryz.prog 46 Tryz.f46 5 [.tmp 2] := ⟨Tryz.func46, Tryz.ntmps46, Tryz.results46⟩
instance AgE : Fc Tryz.prog 47 Tryz.f47 32 [.tmp 6] := ⟨Tryz.func47, Tryz.ntmps47, Tryz.results47⟩
instance AgD : Fc Tryz.prog 48 Tryz.f48 61 [.tmp 4] := ⟨Tryz.func48, Tryz.ntmps48, Tryz.results48⟩
instance AgC : Fc Tryz.prog 49 Tryz.f49 26 [.tmp 4] := ⟨Tryz.func49, Tryz.ntmps49, Tryz.results49⟩
instance AgB : Fc Tryz.prog 50 Tryz.f50 27 [.tmp 4] := ⟨Tryz.func50, Tryz.ntmps50, Tryz.results50⟩
instance AgA : Fc Tryz.prog 51 Tryz.f51 4 [.tmp 2] := ⟨Tryz.func51, Tryz.ntmps51, Tryz.results51⟩
instance Agz : Fc Tryz.prog 54 Tryz.f54 13 [.cell 2 99] := ⟨Tryz.func54, Tryz.ntmps54, Tryz.results54⟩
instance Agy : Fc Tryz.prog 59 Tryz.f59 36 [] := ⟨Tryz.func59, Tryz.ntmps59, Tryz.results59⟩
instance Agx : Fc Tryz.prog 60 Tryz.f60 37 [.tmp 2, .tmp 3] := ⟨Tryz.func60, Tryz.ntmps60, Tryz.results60⟩
instance Agw : Fc Tryz.prog 61 Tryz.f61 129 [.cell 6 28, .tmp 7] := ⟨Tryz.func61, Tryz.ntmps61, Tryz.results61⟩
instance Agv : Fc Tryz.prog 63 Tryz.f63 15 [.cell 2 120] := ⟨Tryz.func63, Tryz.ntmps63, Tryz.results63⟩
instance Agu : Fc Tryz.prog 64 Tryz.f64 5 [.tmp 2] := ⟨Tryz.func64, Tryz.ntmps64, Tryz.results64⟩
instance Agt : Fc Tryz.prog 65 Tryz.f65 74 [.cell 6 28] := ⟨Tryz.func65, Tryz.ntmps65, Tryz.results65⟩
instance Ags : Fc Tryz.prog 66 Tryz.f66 86 [.tmp 2] := ⟨Tryz.func66, Tryz.ntmps66, Tryz.results66⟩
instance Agr : Fc Tryz.prog 67 Tryz.f67 30 [.tmp 4] := ⟨Tryz.func67, Tryz.ntmps67, Tryz.results67⟩
instance Agq : Fc Tryz.prog 68 Tryz.f68 9 [.tmp 4] := ⟨Tryz.func68, Tryz.ntmps68, Tryz.results68⟩
instance Agp : Fc Tryz.prog 69 Tryz.f69 8 [.tmp 3] := ⟨Tryz.func69, Tryz.ntmps69, Tryz.results69⟩
instance Ago : Fc Tryz.prog 70 Tryz.f70 9 [.tmp 4] := ⟨Tryz.func70, Tryz.ntmps70, Tryz.results70⟩
instance Agn : Fc Tryz.prog 71 Tryz.f71 8 [.tmp 3] := ⟨Tryz.func71, Tryz.ntmps71, Tryz.results71⟩
instance Agm : Fc Tryz.prog 72 Tryz.f72 4 [.tmp 2] := ⟨Tryz.func72, Tryz.ntmps72, Tryz.results72⟩
instance Agl : Fc Tryz.prog 74 Tryz.f74 3 [] := ⟨Tryz.func74, Tryz.ntmps74, Tryz.results74⟩
instance Agk : Fc Tryz.prog 75 Tryz.f75 70 [] := ⟨Tryz.func75, Tryz.ntmps75, Tryz.results75⟩
instance Agj : Fc Tryz.prog 76 Tryz.f76 9 [.tmp 4] := ⟨Tryz.func76, Tryz.ntmps76, Tryz.results76⟩
instance Agi : Fc Tryz.prog 77 Tryz.f77 8 [.tmp 3] := ⟨Tryz.func77, Tryz.ntmps77, Tryz.results77⟩
instance Agh : Fc Tryz.prog 78 Tryz.f78 16 [.cell 4 4] := ⟨Tryz.func78, Tryz.ntmps78, Tryz.results78⟩
instance Agg : Fc Tryz.prog 79 Tryz.f79 8 [.tmp 4] := ⟨Tryz.func79, Tryz.ntmps79, Tryz.results79⟩
instance Agf : Fc Tryz.prog 80 Tryz.f80 9 [.tmp 4] := ⟨Tryz.func80, Tryz.ntmps80, Tryz.results80⟩
instance Age : Fc Tryz.prog 81 Tryz.f81 8 [.cell 2 135] := ⟨Tryz.func81, Tryz.ntmps81, Tryz.results81⟩
instance Agd : Fc Tryz.prog 82 Tryz.f82 8 [.cell 2 135] := ⟨Tryz.func82, Tryz.ntmps82, Tryz.results82⟩
instance Agc : Fc Tryz.prog 83 Tryz.f83 24 [.tmp 4] := ⟨Tryz.func83, Tryz.ntmps83, Tryz.results83⟩
instance Agb : Fc Tryz.prog 84 Tryz.f84 71 [.tmp 4] := ⟨Tryz.func84, Tryz.ntmps84, Tryz.results84⟩
instance Aga : Fc Tryz.prog 85 Tryz.f85 31 [] := ⟨Tryz.func85, Tryz.ntmps85, Tryz.results85⟩
instance Af9 : Fc Tryz.prog 86 Tryz.f86 15 [.tmp 0] := ⟨Tryz.func86, Tryz.ntmps86, Tryz.results86⟩
instance Af8 : Fc Tryz.prog 87 Tryz.f87 19 [.tmp 4] := ⟨Tryz.func87, Tryz.ntmps87, Tryz.results87⟩
instance Af7 : Fc Tryz.prog 88 Tryz.f88 8 [.tmp 3] := ⟨Tryz.func88, Tryz.ntmps88, Tryz.results88⟩
instance Af6 : Fc Tryz.prog 93 Tryz.f93 18 [.tmp 2] := ⟨Tryz.func93, Tryz.ntmps93, Tryz.results93⟩
instance Af5 : Fc Tryz.prog 94 Tryz.f94 5 [.tmp 2] := ⟨Tryz.func94, Tryz.ntmps94, Tryz.results94⟩
instance Af4 : Fc Tryz.prog 95 Tryz.f95 12 [.cell 0 147] := ⟨Tryz.func95, Tryz.ntmps95, Tryz.results95⟩
instance Af3 : Fc Tryz.prog 98 Tryz.f98 19 [.tmp 4] := ⟨Tryz.func98, Tryz.ntmps98, Tryz.results98⟩
instance Af2 : Fc Tryz.prog 99 Tryz.f99 6 [] := ⟨Tryz.func99, Tryz.ntmps99, Tryz.results99⟩
instance AfS : Fc Tryz.prog 100 Tryz.f100 10 [.tmp 2, .tmp 3] := ⟨Tryz.func100, Tryz.ntmps100, Tryz.results100⟩
instance AfR : Fc Tryz.prog 101 Tryz.f101 11 [.tmp 2, .tmp 3] := ⟨Tryz.func101, Tryz.ntmps101, Tryz.results101⟩
instance AfQ : Fc Tryz.prog 102 Tryz.f102 19 [.tmp 2] := ⟨Tryz.func102, Tryz.ntmps102, Tryz.results102⟩
instance AfP : Fc Tryz.prog 103 Tryz.f103 47 [.tmp 2, .tmp 3, .tmp 4] := ⟨Tryz.func103, Tryz.ntmps103, Tryz.results103⟩
instance AfO : Fc Tryz.prog 104 Tryz.f104 15 [.cell 2 26, .tmp 3] := ⟨Tryz.func104, Tryz.ntmps104, Tryz.results104⟩
instance AfN : Fc Tryz.prog 105 Tryz.f105 24 [.tmp 4] := ⟨Tryz.func105, Tryz.ntmps105, Tryz.results105⟩
instance AfM : Fc Tryz.prog 106 Tryz.f106 26 [.tmp 2] := ⟨Tryz.func106, Tryz.ntmps106, Tryz.results106⟩
instance AfL : Fc Tryz.prog 107 Tryz.f107 52 [.cell 2 71] := ⟨Tryz.func107, Tryz.ntmps107, Tryz.results107⟩
instance AfK : Fc Tryz.prog 108 Tryz.f108 19 [.tmp 2] := ⟨Tryz.func108, Tryz.ntmps108, Tryz.results108⟩
instance AfJ : Fc Tryz.prog 109 Tryz.f109 19 [.tmp 4] := ⟨Tryz.func109, Tryz.ntmps109, Tryz.results109⟩
instance AfI : Fc Tryz.prog 110 Tryz.f110 19 [.tmp 4] := ⟨Tryz.func110, Tryz.ntmps110, Tryz.results110⟩
instance AfH : Fc Tryz.prog 111 Tryz.f111 23 [] := ⟨Tryz.func111, Tryz.ntmps111, Tryz.results111⟩
instance AfG : Fc Tryz.prog 113 Tryz.f113 5 [] := ⟨Tryz.func113, Tryz.ntmps113, Tryz.results113⟩
instance AfF : Fc Tryz.prog 114 Tryz.f114 27 [.tmp 2] := ⟨Tryz.func114, Tryz.ntmps114, Tryz.results114⟩
instance AfE : Fc Tryz.prog 115 Tryz.f115 9 [.tmp 2] := ⟨Tryz.func115, Tryz.ntmps115, Tryz.results115⟩
instance AfD : Fc Tryz.prog 116 Tryz.f116 69 [.cell 2 71] := ⟨Tryz.func116, Tryz.ntmps116, Tryz.results116⟩
instance AfC : Fc Tryz.prog 117 Tryz.f117 4 [.tmp 2] := ⟨Tryz.func117, Tryz.ntmps117, Tryz.results117⟩
instance AfB : Fc Tryz.prog 118 Tryz.f118 24 [.tmp 2] := ⟨Tryz.func118, Tryz.ntmps118, Tryz.results118⟩
instance AfA : Fc Tryz.prog 119 Tryz.f119 9 [.tmp 2] := ⟨Tryz.func119, Tryz.ntmps119, Tryz.results119⟩
instance Afz : Fc Tryz.prog 120 Tryz.f120 19 [.tmp 4] := ⟨Tryz.func120, Tryz.ntmps120, Tryz.results120⟩
instance Afy : Fc Tryz.prog 121 Tryz.f121 4 [.tmp 2] := ⟨Tryz.func121, Tryz.ntmps121, Tryz.results121⟩
instance Afx : Fc Tryz.prog 122 Tryz.f122 25 [.tmp 4] := ⟨Tryz.func122, Tryz.ntmps122, Tryz.results122⟩
instance Afw : Fc Tryz.prog 123 Tryz.f123 26 [.tmp 4] := ⟨Tryz.func123, Tryz.ntmps123, Tryz.results123⟩
instance Afv : Fc Tryz.prog 124 Tryz.f124 44 [.tmp 4] := ⟨Tryz.func124, Tryz.ntmps124, Tryz.results124⟩
instance Afu : Fc Tryz.prog 125 Tryz.f125 9 [.cell 4 96] := ⟨Tryz.func125, Tryz.ntmps125, Tryz.results125⟩
instance Aft : Fc Tryz.prog 126 Tryz.f126 6 [.tmp 2] := ⟨Tryz.func126, Tryz.ntmps126, Tryz.results126⟩
instance Afs : Fc Tryz.prog 127 Tryz.f127 9 [.cell 4 96] := ⟨Tryz.func127, Tryz.ntmps127, Tryz.results127⟩
instance Afr : Fc Tryz.prog 128 Tryz.f128 6 [.tmp 2] := ⟨Tryz.func128, Tryz.ntmps128, Tryz.results128⟩
instance Afq : Fc Tryz.prog 129 Tryz.f129 6 [.tmp 2] := ⟨Tryz.func129, Tryz.ntmps129, Tryz.results129⟩
instance Afp : Fc Tryz.prog 130 Tryz.f130 6 [.tmp 2] := ⟨Tryz.func130, Tryz.ntmps130, Tryz.results130⟩
instance Afo : Fc Tryz.prog 131 Tryz.f131 6 [.tmp 2] := ⟨Tryz.func131, Tryz.ntmps131, Tryz.results131⟩
instance Afn : Fc Tryz.prog 132 Tryz.f132 12 [.tmp 4, .tmp 5] := ⟨Tryz.func132, Tryz.ntmps132, Tryz.results132⟩
instance Afm : Fc Tryz.prog 133 Tryz.f133 17 [.tmp 4, .tmp 5] := ⟨Tryz.func133, Tryz.ntmps133, Tryz.results133⟩
instance Afl : Fc Tryz.prog 134 Tryz.f134 13 [] := ⟨Tryz.func134, Tryz.ntmps134, Tryz.results134⟩
instance Afk : Fc Tryz.prog 135 Tryz.f135 20 [.tmp 4, .tmp 5] := ⟨Tryz.func135, Tryz.ntmps135, Tryz.results135⟩
instance Afj : Fc Tryz.prog 136 Tryz.f136 8 [.tmp 2, .tmp 3] := ⟨Tryz.func136, Tryz.ntmps136, Tryz.results136⟩
instance Afi : Fc Tryz.prog 137 Tryz.f137 14 [.tmp 6, .tmp 7] := ⟨Tryz.func137, Tryz.ntmps137, Tryz.results137⟩
instance Afh : Fc Tryz.prog 138 Tryz.f138 8 [] := ⟨Tryz.func138, Tryz.ntmps138, Tryz.results138⟩
instance Afg : Fc Tryz.prog 139 Tryz.f139 25 [.tmp 4] := ⟨Tryz.func139, Tryz.ntmps139, Tryz.results139⟩
instance Aff : Fc Tryz.prog 140 Tryz.f140 10 [.tmp 2, .tmp 3, .tmp 4] := ⟨Tryz.func140, Tryz.ntmps140, Tryz.results140⟩
instance Afe : Fc Tryz.prog 141 Tryz.f141 9 [.cell 4 96] := ⟨Tryz.func141, Tryz.ntmps141, Tryz.results141⟩
instance Afd : Fc Tryz.prog 142 Tryz.f142 6 [.tmp 2] := ⟨Tryz.func142, Tryz.ntmps142, Tryz.results142⟩
instance Afc : Fc Tryz.prog 143 Tryz.f143 6 [.tmp 2] := ⟨Tryz.func143, Tryz.ntmps143, Tryz.results143⟩
instance Afb : Fc Tryz.prog 144 Tryz.f144 6 [.tmp 2] := ⟨Tryz.func144, Tryz.ntmps144, Tryz.results144⟩
instance Afa : Fc Tryz.prog 145 Tryz.f145 6 [.tmp 2] := ⟨Tryz.func145, Tryz.ntmps145, Tryz.results145⟩
instance Ae9 : Fc Tryz.prog 146 Tryz.f146 6 [.tmp 2] := ⟨Tryz.func146, Tryz.ntmps146, Tryz.results146⟩
instance Ae8 : Fc Tryz.prog 147 Tryz.f147 6 [.tmp 2] := ⟨Tryz.func147, Tryz.ntmps147, Tryz.results147⟩
instance Ae7 : Fc Tryz.prog 150 Tryz.f150 10 [.tmp 4] := ⟨Tryz.func150, Tryz.ntmps150, Tryz.results150⟩
instance Ae6 : Fc Tryz.prog 153 Tryz.f153 12 [.tmp 6, .tmp 7] := ⟨Tryz.func153, Tryz.ntmps153, Tryz.results153⟩
instance Ae5 : Fc Tryz.prog 154 Tryz.f154 31 [.tmp 4] := ⟨Tryz.func154, Tryz.ntmps154, Tryz.results154⟩
instance Ae4 : Fc Tryz.prog 155 Tryz.f155 18 [.tmp 4, .tmp 5, .tmp 6] := ⟨Tryz.func155, Tryz.ntmps155, Tryz.results155⟩
instance Ae3 : Fc Tryz.prog 156 Tryz.f156 60 [.cell 2 71, .tmp 3, .tmp 4] := ⟨Tryz.func156, Tryz.ntmps156, Tryz.results156⟩
instance Ae2 : Fc Tryz.prog 157 Tryz.f157 30 [.cell 2 26, .tmp 3, .tmp 4] := ⟨Tryz.func157, Tryz.ntmps157, Tryz.results157⟩
instance Ae1 : Fc Tryz.prog 158 Tryz.f158 8 [.tmp 2] := ⟨Tryz.func158, Tryz.ntmps158, Tryz.results158⟩
instance Ae0 : Fc Tryz.prog 159 Tryz.f159 35 [] := ⟨Tryz.func159, Tryz.ntmps159, Tryz.results159⟩
instance AeZ : Fc Tryz.prog 160 Tryz.f160 4 [.tmp 2] := ⟨Tryz.func160, Tryz.ntmps160, Tryz.results160⟩
instance AeY : Fc Tryz.prog 161 Tryz.f161 58 [.tmp 4] := ⟨Tryz.func161, Tryz.ntmps161, Tryz.results161⟩
instance AeX : Fc Tryz.prog 162 Tryz.f162 19 [.tmp 4] := ⟨Tryz.func162, Tryz.ntmps162, Tryz.results162⟩
instance AeW : Fc Tryz.prog 163 Tryz.f163 9 [.tmp 2] := ⟨Tryz.func163, Tryz.ntmps163, Tryz.results163⟩
instance AeV : Fc Tryz.prog 164 Tryz.f164 10 [.tmp 2] := ⟨Tryz.func164, Tryz.ntmps164, Tryz.results164⟩
instance AeU : Fc Tryz.prog 165 Tryz.f165 22 [] := ⟨Tryz.func165, Tryz.ntmps165, Tryz.results165⟩
instance AeT : Fc Tryz.prog 166 Tryz.f166 9 [.tmp 2] := ⟨Tryz.func166, Tryz.ntmps166, Tryz.results166⟩
instance AeS : Fc Tryz.prog 167 Tryz.f167 26 [] := ⟨Tryz.func167, Tryz.ntmps167, Tryz.results167⟩
instance AeR : Fc Tryz.prog 168 Tryz.f168 18 [.tmp 2] := ⟨Tryz.func168, Tryz.ntmps168, Tryz.results168⟩
instance AeQ : Fc Tryz.prog 169 Tryz.f169 20 [.tmp 4] := ⟨Tryz.func169, Tryz.ntmps169, Tryz.results169⟩
instance AeP : Fc Tryz.prog 170 Tryz.f170 20 [.tmp 4] := ⟨Tryz.func170, Tryz.ntmps170, Tryz.results170⟩
instance AeO : Fc Tryz.prog 171 Tryz.f171 15 [.tmp 5, .tmp 6] := ⟨Tryz.func171, Tryz.ntmps171, Tryz.results171⟩
instance AeN : Fc Tryz.prog 172 Tryz.f172 12 [.tmp 6, .tmp 7] := ⟨Tryz.func172, Tryz.ntmps172, Tryz.results172⟩
instance AeM : Fc Tryz.prog 173 Tryz.f173 11 [] := ⟨Tryz.func173, Tryz.ntmps173, Tryz.results173⟩
instance AeL : Fc Tryz.prog 174 Tryz.f174 16 [.tmp 5, .tmp 6] := ⟨Tryz.func174, Tryz.ntmps174, Tryz.results174⟩
instance AeK : Fc Tryz.prog 175 Tryz.f175 12 [] := ⟨Tryz.func175, Tryz.ntmps175, Tryz.results175⟩
instance AeJ : Fc Tryz.prog 176 Tryz.f176 20 [.tmp 4] := ⟨Tryz.func176, Tryz.ntmps176, Tryz.results176⟩
instance AeI : Fc Tryz.prog 177 Tryz.f177 35 [.tmp 4] := ⟨Tryz.func177, Tryz.ntmps177, Tryz.results177⟩
instance AeH : Fc Tryz.prog 178 Tryz.f178 17 [.tmp 2, .tmp 3] := ⟨Tryz.func178, Tryz.ntmps178, Tryz.results178⟩
instance AeG : Fc Tryz.prog 179 Tryz.f179 27 [] := ⟨Tryz.func179, Tryz.ntmps179, Tryz.results179⟩
instance AeF : Fc Tryz.prog 180 Tryz.f180 8 [] := ⟨Tryz.func180, Tryz.ntmps180, Tryz.results180⟩
instance AeE : Fc Tryz.prog 181 Tryz.f181 26 [] := ⟨Tryz.func181, Tryz.ntmps181, Tryz.results181⟩
instance AeD : Fc Tryz.prog 182 Tryz.f182 37 [] := ⟨Tryz.func182, Tryz.ntmps182, Tryz.results182⟩
instance AeC : Fc Tryz.prog 183 Tryz.f183 44 [.tmp 4, .tmp 5, .tmp 6] := ⟨Tryz.func183, Tryz.ntmps183, Tryz.results183⟩
instance AeB : Fc Tryz.prog 184 Tryz.f184 14 [.tmp 2] := ⟨Tryz.func184, Tryz.ntmps184, Tryz.results184⟩
instance AeA : Fc Tryz.prog 185 Tryz.f185 20 [.tmp 4] := ⟨Tryz.func185, Tryz.ntmps185, Tryz.results185⟩
instance Aez : Fc Tryz.prog 186 Tryz.f186 5 [.tmp 2] := ⟨Tryz.func186, Tryz.ntmps186, Tryz.results186⟩
instance Aey : Fc Tryz.prog 187 Tryz.f187 6 [.tmp 4] := ⟨Tryz.func187, Tryz.ntmps187, Tryz.results187⟩
instance Aex : Fc Tryz.prog 188 Tryz.f188 23 [.tmp 5, .tmp 6] := ⟨Tryz.func188, Tryz.ntmps188, Tryz.results188⟩
instance Aew : Fc Tryz.prog 189 Tryz.f189 8 [.tmp 2, .tmp 3] := ⟨Tryz.func189, Tryz.ntmps189, Tryz.results189⟩
instance Aev : Fc Tryz.prog 190 Tryz.f190 11 [] := ⟨Tryz.func190, Tryz.ntmps190, Tryz.results190⟩
instance Aeu : Fc Tryz.prog 191 Tryz.f191 25 [.cell 4 26] := ⟨Tryz.func191, Tryz.ntmps191, Tryz.results191⟩
instance Aet : Fc Tryz.prog 192 Tryz.f192 10 [.cell 2 26, .tmp 3, .tmp 4] := ⟨Tryz.func192, Tryz.ntmps192, Tryz.results192⟩
instance Aes : Fc Tryz.prog 196 Tryz.f196 5 [.tmp 2] := ⟨Tryz.func196, Tryz.ntmps196, Tryz.results196⟩
instance Aer : Fc Tryz.prog 197 Tryz.f197 19 [.tmp 4] := ⟨Tryz.func197, Tryz.ntmps197, Tryz.results197⟩
instance Aeq : Fc Tryz.prog 199 Tryz.f199 30 [.tmp 3] := ⟨Tryz.func199, Tryz.ntmps199, Tryz.results199⟩
instance Aep : Fc Tryz.prog 200 Tryz.f200 8 [] := ⟨Tryz.func200, Tryz.ntmps200, Tryz.results200⟩
instance Aeo : Fc Tryz.prog 201 Tryz.f201 9 [.tmp 2] := ⟨Tryz.func201, Tryz.ntmps201, Tryz.results201⟩
instance Aen : Fc Tryz.prog 202 Tryz.f202 19 [.tmp 2] := ⟨Tryz.func202, Tryz.ntmps202, Tryz.results202⟩
instance Aem : Fc Tryz.prog 203 Tryz.f203 22 [.cell 2 64, .tmp 3, .tmp 4] := ⟨Tryz.func203, Tryz.ntmps203, Tryz.results203⟩
instance Ael : Fc Tryz.prog 204 Tryz.f204 133 [.cell 4 71, .tmp 5, .tmp 6] := ⟨Tryz.func204, Tryz.ntmps204, Tryz.results204⟩
instance Aek : Fc Tryz.prog 205 Tryz.f205 16 [.tmp 4] := ⟨Tryz.func205, Tryz.ntmps205, Tryz.results205⟩
instance Aej : Fc Tryz.prog 206 Tryz.f206 25 [] := ⟨Tryz.func206, Tryz.ntmps206, Tryz.results206⟩
instance Aei : Fc Tryz.prog 207 Tryz.f207 26 [.cell 0 266] := ⟨Tryz.func207, Tryz.ntmps207, Tryz.results207⟩
instance Aeh : Fc Tryz.prog 208 Tryz.f208 6 [.tmp 2] := ⟨Tryz.func208, Tryz.ntmps208, Tryz.results208⟩
instance Aeg : Fc Tryz.prog 209 Tryz.f209 6 [.tmp 2] := ⟨Tryz.func209, Tryz.ntmps209, Tryz.results209⟩
instance Aef : Fc Tryz.prog 211 Tryz.f211 9 [.tmp 3] := ⟨Tryz.func211, Tryz.ntmps211, Tryz.results211⟩
instance Aee : Fc Tryz.prog 213 Tryz.f213 5 [] := ⟨Tryz.func213, Tryz.ntmps213, Tryz.results213⟩
instance Aed : Fc Tryz.prog 214 Tryz.f214 17 [] := ⟨Tryz.func214, Tryz.ntmps214, Tryz.results214⟩
instance Aec : Fc Tryz.prog 215 Tryz.f215 16 [.cell 0 278] := ⟨Tryz.func215, Tryz.ntmps215, Tryz.results215⟩
instance Aeb : Fc Tryz.prog 216 Tryz.f216 12 [.tmp 2, .tmp 3] := ⟨Tryz.func216, Tryz.ntmps216, Tryz.results216⟩
instance Aea : Fc Tryz.prog 217 Tryz.f217 8 [] := ⟨Tryz.func217, Tryz.ntmps217, Tryz.results217⟩
instance Ad9 : Fc Tryz.prog 218 Tryz.f218 11 [.tmp 2] := ⟨Tryz.func218, Tryz.ntmps218, Tryz.results218⟩
instance Ad8 : Fc Tryz.prog 219 Tryz.f219 8 [.tmp 4] := ⟨Tryz.func219, Tryz.ntmps219, Tryz.results219⟩
instance Ad7 : Fc Tryz.prog 220 Tryz.f220 9 [.tmp 2] := ⟨Tryz.func220, Tryz.ntmps220, Tryz.results220⟩
instance Ad6 : Fc Tryz.prog 221 Tryz.f221 13 [.tmp 4] := ⟨Tryz.func221, Tryz.ntmps221, Tryz.results221⟩
instance Ad5 : Fc Tryz.prog 222 Tryz.f222 13 [] := ⟨Tryz.func222, Tryz.ntmps222, Tryz.results222⟩
instance Ad4 : Fc Tryz.prog 223 Tryz.f223 60 [.cell 2 71] := ⟨Tryz.func223, Tryz.ntmps223, Tryz.results223⟩
instance Ad3 : Fc Tryz.prog 224 Tryz.f224 19 [] := ⟨Tryz.func224, Tryz.ntmps224, Tryz.results224⟩
instance Ad2 : Fc Tryz.prog 225 Tryz.f225 44 [.cell 4 26, .tmp 5, .tmp 6] := ⟨Tryz.func225, Tryz.ntmps225, Tryz.results225⟩
instance Ad1 : Fc Tryz.prog 226 Tryz.f226 21 [.cell 2 26] := ⟨Tryz.func226, Tryz.ntmps226, Tryz.results226⟩
instance Ad0 : Fc Tryz.prog 227 Tryz.f227 14 [.tmp 4] := ⟨Tryz.func227, Tryz.ntmps227, Tryz.results227⟩
instance AdZ : Fc Tryz.prog 228 Tryz.f228 21 [.tmp 4] := ⟨Tryz.func228, Tryz.ntmps228, Tryz.results228⟩
instance AdY : Fc Tryz.prog 230 Tryz.f230 51 [.tmp 4, .tmp 5, .tmp 6] := ⟨Tryz.func230, Tryz.ntmps230, Tryz.results230⟩
instance AdX : Fc Tryz.prog 231 Tryz.f231 60 [.cell 2 69, .tmp 3, .tmp 4] := ⟨Tryz.func231, Tryz.ntmps231, Tryz.results231⟩
instance AdW : Fc Tryz.prog 234 Tryz.f234 15 [.tmp 4] := ⟨Tryz.func234, Tryz.ntmps234, Tryz.results234⟩
instance AdV : Fc Tryz.prog 248 Tryz.f248 14 [] := ⟨Tryz.func248, Tryz.ntmps248, Tryz.results248⟩
instance AdU : Fc Tryz.prog 249 Tryz.f249 14 [] := ⟨Tryz.func249, Tryz.ntmps249, Tryz.results249⟩
instance AdT : Fc Tryz.prog 250 Tryz.f250 25 [] := ⟨Tryz.func250, Tryz.ntmps250, Tryz.results250⟩
instance AdS : Fc Tryz.prog 251 Tryz.f251 8 [] := ⟨Tryz.func251, Tryz.ntmps251, Tryz.results251⟩
instance AdR : Fc Tryz.prog 252 Tryz.f252 8 [] := ⟨Tryz.func252, Tryz.ntmps252, Tryz.results252⟩
instance AdQ : Fc Tryz.prog 253 Tryz.f253 86 [] := ⟨Tryz.func253, Tryz.ntmps253, Tryz.results253⟩
instance AdP : Fc Tryz.prog 254 Tryz.f254 39 [.tmp 4] := ⟨Tryz.func254, Tryz.ntmps254, Tryz.results254⟩
instance AdO : Fc Tryz.prog 255 Tryz.f255 25 [.tmp 2] := ⟨Tryz.func255, Tryz.ntmps255, Tryz.results255⟩
instance AdN : Fc Tryz.prog 256 Tryz.f256 23 [.tmp 4] := ⟨Tryz.func256, Tryz.ntmps256, Tryz.results256⟩
instance AdM : Fc Tryz.prog 257 Tryz.f257 33 [] := ⟨Tryz.func257, Tryz.ntmps257, Tryz.results257⟩
instance AdL : Fc Tryz.prog 258 Tryz.f258 8 [] := ⟨Tryz.func258, Tryz.ntmps258, Tryz.results258⟩
instance AdK : Fc Tryz.prog 259 Tryz.f259 25 [.tmp 4] := ⟨Tryz.func259, Tryz.ntmps259, Tryz.results259⟩
instance AdJ : Fc Tryz.prog 271 Tryz.f271 23 [] := ⟨Tryz.func271, Tryz.ntmps271, Tryz.results271⟩
instance AdI : Fc Tryz.prog 272 Tryz.f272 41 [] := ⟨Tryz.func272, Tryz.ntmps272, Tryz.results272⟩
instance AdH : Fc Tryz.prog 309 Tryz.f309 9 [] := ⟨Tryz.func309, Tryz.ntmps309, Tryz.results309⟩
instance AdG : Fc Tryz.prog 310 Tryz.f310 21 [] := ⟨Tryz.func310, Tryz.ntmps310, Tryz.results310⟩

set_option maxRecDepth 20000
open Go.RowKit
theorem Ai {g g' : Prop} (k : g') (h : g' → g := by
  intro k
  first
  | ((with_reducible refine QH ?_)
     first
     | ((with_reducible refine Abn ?_); exact Abg k)
     | (refine RX 0 ?_; exact Abf k)
     | (refine RX 3 ?_; exact Abd k)
     | (refine RX 1 ?_; first | exact Abe k | exact Ze k)
     | (refine RX 2 ?_; exact Abc k)
     | (refine RX 5 ?_; exact Ac2 k)
     | (refine RX 6 ?_; exact H7 k))
  | ((with_reducible refine QK ?_)
     first
     | with_reducible exact WE k
     | ((with_reducible refine Abt ?_); exact WB k)
     | (refine To 0 ?_; exact WC k)
     | (refine To 3 ?_; first | exact G9 k | exact RZ k)
     | (refine To 1 ?_; first | exact Tm k | exact Tm k (h := Uu) | exact Zk k (h := Uu) | exact Abs k | exact Zk k)
     | (refine To 2 ?_; first | exact Tm k | exact Zk k | exact WH k | exact Tp k | exact Zn k | exact WG k)
     | (refine To 6 ?_; exact WC k))) : g := h k
theorem As {g : Prop} (k : g) (_h : g → g := by first | with_reducible exact QH | with_reducible exact QK) : g := k
theorem Aa {g g' : Prop} (k : g') (h : g' → g := by intro k; first | exact S5 k | exact S3 k) : g := h k
theorem xo {p g : Prop} (h : p) (k : p → g := by intro h; exfalso; (try simp only [decide_eq_true_eq, decide_eq_false_iff_not] at h); omega) : g := k h
theorem Ah {g g' : Prop} (k : g') (h : g' → g := by
 intro k
 first
 | with_reducible exact AS k
 | ((with_reducible refine Ws ?_); exact Ob k)
 | ((with_reducible refine SY ?_); first | exact SV k | exact SX k)
 | ((with_reducible refine AbE ?_); first | exact Ac7 k | exact Ac9 k)
 | ((with_reducible refine ZD ?_); exact ZC rfl k)
 | ((with_reducible refine AbL ?_); exact ZM k)
 | ((with_reducible refine Va ?_); exact Aaf k)
 | ((with_reducible refine Ve ?_); exact Aai k)
 | with_reducible (refine NX.go ?_; constructor; exact k)
 | with_reducible exact XQ rfl k
 | with_reducible exact XP rfl k
 | ((with_reducible refine XO ?_); exact Ab1 k)
 | ((with_reducible refine Vf ?_); exact Aaj k)
 | ((with_reducible refine Vd ?_); first | exact Aah (by assumption) k | exact XM k | exact XK k | exact XL (by assumption) k)
 | ((with_reducible refine Vb ?_); first | exact Aag (by assumption) k | exact XJ k | exact XI k)) : g := h k
theorem nc {g g1 g2 : Prop} (k1 : g1) (k2 : g2) (h : g1 → g2 → g := by
 intro k1 k2
 first
 | ((with_reducible refine QH ?_); (fail_if_success (refine Zc ?_)); first | exact Wu k1 k2 | exact S7 k1 k2)
 | ((with_reducible refine SY ?_); first | exact Aba k1 k2 | exact Abb k1 k2)) : g := h k1 k2
theorem nd {g g1 g2 : Prop} (k1 : g1) (k2 : g2) (h : g1 → g2 → g := by
 intro k1 k2
 (with_reducible refine QK ?_); (fail_if_success (refine Zm ?_)); exact WF k1 k2) : g := h k1 k2
theorem YN {P : Program} {f : FuncId} {ds : List D} {d : D} {g : Prop} (_ : VP P f ds (· = .ret d)) (h : g) : g := h
theorem YO {P : Program} {f : FuncId} {ds : List D} {e : TypeId} {sz : Nat} {l : List (List D)} {g : Prop} (_ : VP P f ds (· = .own e sz l)) (h : g) : g := h
theorem Ab9 {P : Program} {f : FuncId} {ds : List D} {d : D} {g : Prop} (_ : VP P f ds (· = .panic d)) (h : g) : g := h
theorem cz {g g' : Prop} {P : Program} {f : FuncId} {ds : List D} {post : R → Prop} (c : VP P f ds post) (k : g') (h : VP P f ds post → g' → g := by
  intro c k
  first
  | ((with_reducible refine QH ?_); refine AJ c ?_
     first
     | ((with_reducible refine YN c ?_); first | exact Ag c k (h := TX) | exact Ag c k (h := QZ))
     | ((with_reducible refine YO c ?_); first | exact Ag c k (h := TY) | exact Ag c k (h := OB))
     | ((with_reducible refine Ab9 c ?_); first | exact Ao c k | exact S4 c k)
     | exact Ag c k)
  | ((with_reducible refine QK ?_); refine Ac3 c ?_
     first
     | ((with_reducible refine YN c ?_); first | exact Tn c k | exact QJ c k)
     | ((with_reducible refine YO c ?_); first | exact WD c k | exact Zl c k | exact QJ c k)
     | exact Tn c k)) : g := h c k
theorem AE {cx : Cx} {tm tm' : List (Nat × V)} {st st' : List E} {nb nb' : Nat} (h1 : TmR nb' [] st tm tm' := by ((repeat' (first | exact trivial | exact DD | refine CX ?_ ?_ | exact DG | exact EW | exact DB rfl | exact DA rfl rfl | exact CW rfl rfl | refine DH ?_ | refine Dz ?_ | refine DF ?_ | refine EU ?_ ?_ | exact ET | exact DC | exact EV | exact ES rfl | exact ER rfl | refine ⟨⟨rfl, _, rfl, ?_⟩, ?_⟩ | exact GT rfl (by infer_instance) | refine ⟨⟨_, rfl, ?_⟩, ?_⟩ | refine ⟨⟨rfl, .inl ⟨rfl, _, _, rfl, rfl⟩⟩, ?_⟩ | refine ⟨⟨rfl, .inr ⟨rfl, rfl, rfl⟩⟩, ?_⟩ | refine ⟨⟨rfl, _, rfl, ?_⟩, ?_⟩ | refine ⟨?_, ?_⟩)); fail_if_success (focus skip))) (h2 : Jo nb' [] st st' := by ((repeat' (first | exact trivial | exact DD | refine CX ?_ ?_ | exact DG | exact EW | exact DB rfl | exact DA rfl rfl | exact CW rfl rfl | refine DH ?_ | refine Dz ?_ | refine DF ?_ | refine EU ?_ ?_ | exact ET | exact DC | exact EV | exact ES rfl | exact ER rfl | refine ⟨⟨rfl, _, rfl, ?_⟩, ?_⟩ | exact GT rfl (by infer_instance) | refine ⟨⟨_, rfl, ?_⟩, ?_⟩ | refine ⟨⟨rfl, .inl ⟨rfl, _, _, rfl, rfl⟩⟩, ?_⟩ | refine ⟨⟨rfl, .inr ⟨rfl, rfl, rfl⟩⟩, ?_⟩ | refine ⟨⟨rfl, _, rfl, ?_⟩, ?_⟩ | refine ⟨?_, ?_⟩)); fail_if_success (focus skip))) (hd : DfR nb' [] st cx.df := by ((repeat' (first | exact trivial | exact DD | refine CX ?_ ?_ | exact DG | exact EW | exact DB rfl | exact DA rfl rfl | exact CW rfl rfl | refine DH ?_ | refine Dz ?_ | refine DF ?_ | refine EU ?_ ?_ | exact ET | exact DC | exact EV | exact ES rfl | exact ER rfl | refine ⟨⟨rfl, _, rfl, ?_⟩, ?_⟩ | exact GT rfl (by infer_instance) | refine ⟨⟨_, rfl, ?_⟩, ?_⟩ | refine ⟨⟨rfl, .inl ⟨rfl, _, _, rfl, rfl⟩⟩, ?_⟩ | refine ⟨⟨rfl, .inr ⟨rfl, rfl, rfl⟩⟩, ?_⟩ | refine ⟨⟨rfl, _, rfl, ?_⟩, ?_⟩ | refine ⟨?_, ?_⟩)); fail_if_success (focus skip))) (hρ : GU cx.m [] = true := by rfl) (h3 : Nat.ble cx.m nb' = true := by rfl) : RS cx ⟨tm, st, nb⟩ ⟨tm', st', nb'⟩ := QS [] h1 h2 hd hρ h3
theorem Eo {cx : Cx} {tm tm' : List (Nat × V)} {st st' : List E} {nb nb' : Nat} (ρ : Ren) (h1 : TmR nb' ρ st tm tm' := by ((repeat' (first | exact trivial | exact DD | refine CX ?_ ?_ | exact DG | exact EW | exact DB rfl | exact DA rfl rfl | exact CW rfl rfl | refine DH ?_ | refine Dz ?_ | refine DF ?_ | refine EU ?_ ?_ | exact ET | exact DC | exact EV | exact ES rfl | exact ER rfl | refine ⟨⟨rfl, _, rfl, ?_⟩, ?_⟩ | exact GT rfl (by infer_instance) | refine ⟨⟨_, rfl, ?_⟩, ?_⟩ | refine ⟨⟨rfl, .inl ⟨rfl, _, _, rfl, rfl⟩⟩, ?_⟩ | refine ⟨⟨rfl, .inr ⟨rfl, rfl, rfl⟩⟩, ?_⟩ | refine ⟨⟨rfl, _, rfl, ?_⟩, ?_⟩ | refine ⟨?_, ?_⟩)); fail_if_success (focus skip))) (h2 : Jo nb' ρ st st' := by ((repeat' (first | exact trivial | exact DD | refine CX ?_ ?_ | exact DG | exact EW | exact DB rfl | exact DA rfl rfl | exact CW rfl rfl | refine DH ?_ | refine Dz ?_ | refine DF ?_ | refine EU ?_ ?_ | exact ET | exact DC | exact EV | exact ES rfl | exact ER rfl | refine ⟨⟨rfl, _, rfl, ?_⟩, ?_⟩ | exact GT rfl (by infer_instance) | refine ⟨⟨_, rfl, ?_⟩, ?_⟩ | refine ⟨⟨rfl, .inl ⟨rfl, _, _, rfl, rfl⟩⟩, ?_⟩ | refine ⟨⟨rfl, .inr ⟨rfl, rfl, rfl⟩⟩, ?_⟩ | refine ⟨⟨rfl, _, rfl, ?_⟩, ?_⟩ | refine ⟨?_, ?_⟩)); fail_if_success (focus skip))) (hd : DfR nb' ρ st cx.df := by ((repeat' (first | exact trivial | exact DD | refine CX ?_ ?_ | exact DG | exact EW | exact DB rfl | exact DA rfl rfl | exact CW rfl rfl | refine DH ?_ | refine Dz ?_ | refine DF ?_ | refine EU ?_ ?_ | exact ET | exact DC | exact EV | exact ES rfl | exact ER rfl | refine ⟨⟨rfl, _, rfl, ?_⟩, ?_⟩ | exact GT rfl (by infer_instance) | refine ⟨⟨_, rfl, ?_⟩, ?_⟩ | refine ⟨⟨rfl, .inl ⟨rfl, _, _, rfl, rfl⟩⟩, ?_⟩ | refine ⟨⟨rfl, .inr ⟨rfl, rfl, rfl⟩⟩, ?_⟩ | refine ⟨⟨rfl, _, rfl, ?_⟩, ?_⟩ | refine ⟨?_, ?_⟩)); fail_if_success (focus skip))) (hρ : GU cx.m ρ = true := by first | rfl | decide) (h3 : Nat.ble cx.m nb' = true := by rfl) : RS cx ⟨tm, st, nb⟩ ⟨tm', st', nb'⟩ := QS ρ h1 h2 hd hρ h3

theorem VM.sub1 {P : Program} {f : FuncId} {m : Nat} {vs : List V} {st : List E} {nb nb' : Nat} {r : RC} {st' : List E} (h : VM P f m vs st nb (Gy m r st' nb')) : Dk P f m vs st nb r st' nb' := fun B => by
 have hv := h B
 refine ⟨hv.1, fun g w us h1 h2 h3 => (hv.2 g w us h1 h2 h3).mono ?_⟩
 rintro e w' ⟨g1, st1, nb1, r1, k1, k2, k3, k4, k5, k6⟩
 obtain ⟨g2, q1, q2, q3, q4, q5⟩ := k5 B g1 w' e k2 k3 k4
 exact ⟨g2, st', nb', r, k1.trans2 q1, q2, q3, q4, ⟨rfl, rfl, rfl⟩, q5⟩
section
variable {P : Program} {cx : Cx} {Q : VE → St → Prop} {tm : List (Nat × V)} {st : List E} {nb : Nat}
theorem Na {c : Code} {nw : Bool} {ver : Nat} {e : TypeId} {sz : Nat} {l : List (List D)} (k : Nat) (hr : Az k st = some (true, nw, ver, e, sz, l)) (h : VW P cx c ⟨tm, .r false nw k ver e sz l :: st, nb⟩ Q) : VW P cx c ⟨tm, st, nb⟩ Q := fun n g0 w0 g a w hE hS => by
 obtain ⟨g', h1, h2, h3⟩ := Lw hS.inv hS.st hr
 exact h n g0 w0 g' a w (hE.trans h1) (hS.same h1 h2 h3)
end

section
variable {P : Program} {cx : Cx} {s : St} {Q : VE → St → Prop}
abbrev VV {β : Type} (cx : Cx) (I : Nat → β → St) (n : Nat) (T : Nat → β → Prop) (i : Nat) (y : β) (Q : VE → St → Prop) : VE → St → Prop :=
 MM cx (fun z : Nat × β => I z.1 z.2) (fun z => z.1 ≤ n ∧ T z.1 z.2) (fun z => n - z.1) (i, y) Q
theorem Bo {ι β : Type} (t : Tmp) (l : List ι) (fD : ι → List D) (I : Nat → β → St) (T : Nat → β → Prop) (y0 : β) {c : Code} {cc f : Bool} (h0 : RS cx s (I 0 y0)) (hT : T 0 y0)
  (step : ∀ i y x, T i y → i < l.length → l[i]? = some x → (l.map fD)[((i : Nat) : Int).toNat]? = some (fD x) → (i : Int) < ((l.map fD).length : Int) → (l.map fD).length = l.length → l.length ≤ 9223372036854775807 → l.drop i = x :: l.drop (i + 1) → VW P cx c (I i y) (VV cx I l.length T i y Q))
  (last : ∀ y, T l.length y → ¬ ((l.length : Int) < ((l.map fD).length : Int)) → (l.map fD).length = l.length → VW P cx c (I l.length y) (VV cx I l.length T l.length y Q))
  (hs : ∀ i y, AA t (I i y).tm = some (.d (.sl cc f (l.map fD))) := by exact fun _ _ => rfl) : VW P cx (.loop c) s Q := by
 refine BP (fun z : Nat × β => I z.1 z.2) (fun z => z.1 ≤ l.length ∧ T z.1 z.2) (fun z => l.length - z.1) (0, y0) h0 ⟨Nat.zero_le _, hT⟩ ?_
 rintro ⟨i, y⟩ ⟨hi, hT⟩
 refine Y9 t (hs i y) fun hlen => ?_
 simp only [List.length_map] at hlen
 simp only at hi hT
 rcases Nat.lt_or_ge i l.length with h | h
 ·have hx : l[i]? = some l[i] := List.getElem?_eq_getElem h
  exact step i y l[i] hT h hx (by simp [hx]) (by simpa using h) (List.length_map _) hlen (List.drop_eq_getElem_cons h)
 ·obtain rfl : i = l.length := by omega
  exact last y hT (by simp) (List.length_map _)
theorem Bd {β : Type} {I : Nat → β → St} {n : Nat} {T : Nat → β → Prop} {i : Nat} {y : β} (y' : β) (hi : i < n) (hT : T (i + 1) y') (h : RS cx s (I (i + 1) y')) : VV cx I n T i y Q .normal s :=
 ⟨(i + 1, y'), ⟨hi, hT⟩, by simp only; omega, h⟩
end

end Go.Proofs.YtbgcjnfhadhjeaaGreat