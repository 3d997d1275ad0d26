/- Bytes that a law is handed; powers at finitely many numbers, computed by the kernel. -/
import Derived.Test.YtabacjajikiaoaaPha
import Derived.Test.YtabacjajikiaoaaSli
import Derived.ChangeSlices
namespace Go.Fl
open Ieee Go.ChangeShapes Go.WideShapes Go.RowKit Go.Deep

/-- What a walk is told of a slice of integers that came in. -/
def IsInts (k : IntKind) (w : World) (a : Option Addr) (len cap : Nat) (zs : List Int) : Prop :=
  (a = none ∧ len = 0 ∧ cap = 0 ∧ zs = []) ∨
  ∃ x, a = some x ∧ len ≤ cap ∧ cap ≤ maxLen ∧ len ≤ zs.length ∧ (∀ i, i < len → w.cell? (x.add i) = some (.int k (zs.getD i 0))) ∧ ∀ n ∈ zs, (Lit.int k n).wf = true
section
variable {H : Type} {enc : TypeId × Value → H} {P : Program} {w : World} {base : Nat} {spare : Nat → Bool} {held : Bool}
theorem open_intsS {t e : TypeId} {k : IntKind} {a : Option Addr} {len cap fuel : Nat} {x : DataW H × List MemPlace} (ht : P.underlying t = some (.slice e)) (he : P.underlying e = some (.int k)) (hc : P.cellsOf e = 1)
    (h : DataW.trod enc P w base (fun _ => true) held fuel t [.slice a len cap] = some x) : ∃ zs, IsInts k w a len cap zs := by
  rcases open_ints ht he hc h with ⟨hcs, -⟩ | ⟨a', l, c, zs, hcs, hb, hl, hm, hz, hx, hi, hw⟩
  · simp at hcs; exact ⟨[], .inl ⟨hcs.1, hcs.2.1, hcs.2.2, rfl⟩⟩
  · simp at hcs
    obtain ⟨rfl, rfl, rfl⟩ := hcs
    simp at hz
    exact ⟨zs, .inr ⟨a', rfl, hl, hm, by omega, fun i hil => hi i (by omega), hw⟩⟩
end
/-- A slice's first 'len' cells hold the integers 'Z'. -/
def SlI (k : IntKind) (w : World) (a : Option Addr) (len : Nat) (Z : Nat → Int) : Prop := SlAt w a len fun j => .int k (Z j)
theorem SlI.keep {k : IntKind} {w w' : World} {a : Option Addr} {len : Nat} {Z : Nat → Int} (h : SlI k w a len Z) (hg : Gro w w') : SlI k w' a len Z := SlAt.keep h hg
theorem SlI.of {k : IntKind} {w : World} {a : Option Addr} {len cap : Nat} {zs : List Int} (h : IsInts k w a len cap zs) : SlI k w a len fun j => zs.getD j 0 := by
  rcases h with ⟨rfl, rfl, rfl, rfl⟩ | ⟨x, rfl, hl, hm, hz, hc, -⟩
  · exact ⟨Nat.zero_le _, fun hp => absurd hp (by omega)⟩
  · refine ⟨by omega, fun hp => ?_⟩
    obtain ⟨b, off, spot⟩ := x
    have hs : spot = none := by simpa [Addr.add] using World.cell?_spot (hc 0 hp)
    subst hs
    exact ⟨b, off, rfl, fun j hj => by rw [← Go.WideShapes.add_plain]; exact hc j hj⟩
theorem IsInts.wf {k : IntKind} {w : World} {a : Option Addr} {len cap : Nat} {zs : List Int} (h : IsInts k w a len cap zs) (j : Nat) (hj : j < len) : (Lit.int k (zs.getD j 0)).wf = true := by
  rcases h with ⟨rfl, rfl, rfl, rfl⟩ | ⟨x, rfl, hl, hm, hz, hc, hw⟩
  · omega
  · have hj2 : j < zs.length := by omega
    simp only [List.getD, List.getElem?_eq_getElem hj2, Option.getD_some]
    exact hw _ (List.getElem_mem hj2)
theorem wf_u8 {n : Int} (h : (Lit.int .u8 n).wf = true) : 0 ≤ n ∧ n ≤ 255 := by
  have h' : (decide (IntKind.u8.min ≤ n) && decide (n ≤ IntKind.u8.max)) = true := h
  have e1 : IntKind.u8.min = 0 := by decide
  have e2 : IntKind.u8.max = 255 := by decide
  rw [e1, e2] at h'
  simpa using h'

def expP (t : Option Nat) : Nat → Option Nat
  | 0 => cl .f64 4607182418800017408
  | j + 1 => fop .add .f64 (cl .f64 4607182418800017408) (fop .quo .f64 (fop .mul .f64 t (expP t j)) (i2f (12 - (j : Int))))
def expS (p : Option Nat) : Nat → Option Nat
  | 0 => p
  | j + 1 => fop .mul .f64 (expS p j) (expS p j)
def expT (x : Option Nat) : Option Nat := fop .quo .f64 x (cl .f64 4643211215818981376)
def expC (x : Option Nat) : Option Nat := expS (expP (expT x) 12) 8
def expR (x : Option Nat) : Option Nat := narrow (expC (widen x))
/-- Where the power is neither cut off nor too great. -/
def expOk (x : Option Nat) : Bool := !fgt .f32 x (cl .f32 1128792064) && (!flt .f32 x (cl .f32 3276275712) && fits (expC (widen x)))
def i2f32 (n : Int) : Option Nat := cl .f32 (floatOfInt .f32 n)
def powX (n : Nat) : Option Nat := fop .quo .f32 (i2f32 ((n : Int) - 32)) (cl .f32 1090519040)
def powY (k : Nat) : Option Nat := fop .quo .f32 (i2f32 ((k : Int) - 64)) (cl .f32 1090519040)
def gapC (a b : Option Nat) : Option Nat := if flt .f64 a b then fop .sub .f64 b a else fop .sub .f64 a b
def expW : List Nat := [967827720, 969362444, 971101513, 973072137, 974191837, 975457003, 976890623, 978515128, 980355933, 981954487, 983136307, 984475485, 985992972, 987712511, 989661003, 990862339, 992113296, 993530815, 995137075, 996957207, 998632019, 999800566, 1001124704, 1002625149, 1004325375, 1006251984, 1007534039, 1008770946, 1010172546, 1011760767, 1013560457, 1015310670, 1016466094, 1017775360, 1019258954, 1020940085, 1022845057, 1024206924, 1025429940, 1026815799, 1028386182, 1030165660, 1031990428, 1033132876, 1034427438, 1035894369, 1037556620, 1039440198, 1040880981, 1042090262, 1043460556, 1045013303, 1046772796, 1048671281, 1049800898, 1051080921, 1052531378, 1054174960, 1056037383, 1057556197, 1058751896, 1060106801, 1061642109, 1063381841, 1065353216, 1066470146, 1067735794, 1069169961, 1070795084, 1072636591, 1074232558, 1075414828, 1076754516, 1078272582, 1079992775, 1081942010, 1083140607, 1084392041, 1085810101, 1087416973, 1089237798, 1090910051, 1092079044, 1093403686, 1094904703, 1096605577, 1098532920, 1099812267, 1101049646, 1102451780, 1104040606, 1105840981, 1107588665, 1108744529, 1110054295, 1111538453, 1113220225, 1115125923, 1116485113, 1117708595, 1119094981, 1120665963, 1122446119, 1124268386, 1125411269, 1126706325, 1128173815, 1129836699, 1131720994, 1133159130, 1134368872, 1135739688, 1137293027, 1139053190, 1140949202, 1142079249, 1143359761, 1144810770, 1146454979, 1148318112, 1149834307, 1151030462, 1152385883, 1153921776, 1155662171, 1157631101, 1158748457, 1160014587, 1161449300]
def powYW : List Nat := [3238002688, 3237740544, 3237478400, 3237216256, 3236954112, 3236691968, 3236429824, 3236167680, 3235905536, 3235643392, 3235381248, 3235119104, 3234856960, 3234594816, 3234332672, 3234070528, 3233808384, 3233546240, 3233284096, 3233021952, 3232759808, 3232497664, 3232235520, 3231973376, 3231711232, 3231449088, 3231186944, 3230924800, 3230662656, 3230400512, 3230138368, 3229876224, 3229614080, 3229089792, 3228565504, 3228041216, 3227516928, 3226992640, 3226468352, 3225944064, 3225419776, 3224895488, 3224371200, 3223846912, 3223322624, 3222798336, 3222274048, 3221749760, 3221225472, 3220176896, 3219128320, 3218079744, 3217031168, 3215982592, 3214934016, 3213885440, 3212836864, 3210739712, 3208642560, 3206545408, 3204448256, 3200253952, 3196059648, 3187671040, 0, 1040187392, 1048576000, 1052770304, 1056964608, 1059061760, 1061158912, 1063256064, 1065353216, 1066401792, 1067450368, 1068498944, 1069547520, 1070596096, 1071644672, 1072693248, 1073741824, 1074266112, 1074790400, 1075314688, 1075838976, 1076363264, 1076887552, 1077411840, 1077936128, 1078460416, 1078984704, 1079508992, 1080033280, 1080557568, 1081081856, 1081606144, 1082130432, 1082392576, 1082654720, 1082916864, 1083179008, 1083441152, 1083703296, 1083965440, 1084227584, 1084489728, 1084751872, 1085014016, 1085276160, 1085538304, 1085800448, 1086062592, 1086324736, 1086586880, 1086849024, 1087111168, 1087373312, 1087635456, 1087897600, 1088159744, 1088421888, 1088684032, 1088946176, 1089208320, 1089470464, 1089732608, 1089994752, 1090256896, 1090519040]
def expV : List Nat := [4554823816819245056, 4555647765492793344, 4556581421052854272, 4557639391756943360, 4558240526117109760, 4558919756941361152, 4559689425818222592, 4560561575299121152, 4561549849958285312, 4562408067102146560, 4563042551883366400, 4563761517597556736, 4564576212227194880, 4565499382698344448, 4566545471375409152, 4567190433729347584, 4567862036154810368, 4568623060873117696, 4569485415144226816, 4570462591071027200, 4571361748916895744, 4571989107810500608, 4572699998986174464, 4573505544261730304, 4574418346144956416, 4575452686475853824, 4576140984512937984, 4576805043902087168, 4577557522172346368, 4578410191829073920, 4579376393040691200, 4580316031490195456, 4580936345026822144, 4581639251858292736, 4582435750322110464, 4583338300655271936, 4584361024710246400, 4585092171488559104, 4585748773203869696, 4586492800589103104, 4587335893542502400, 4588291243519246336, 4589270908379594752, 4589884255479267328, 4590579268160847872, 4591366820744658944, 4592259234955001856, 4593270473193684992, 4594043987676889088, 4594693215470223360, 4595428886459711488, 4596262511157706752, 4597207131769274368, 4598226373142642688, 4598832831651643392, 4599520038767034368, 4600298746939441152, 4601181138306727936, 4602181019041267712, 4602996426098606080, 4603638362111213568, 4604365771194236928, 4605190033400397824, 4606124044905873408, 4607182418800017408, 4607782066027757568, 4608461555623788544, 4609231518169038848, 4610103999436161024, 4611092650978705408, 4611949479237517312, 4612584205610647552, 4613303445129003008, 4614118450606899200, 4615041972191625216, 4616088459763777536, 4616731951628288000, 4617403810141175808, 4618165125306646528, 4619027808142753792, 4620005356121096192, 4620903140114300928, 4621530738452332544, 4622241900210946048, 4623047752576663552, 4623960902352240640, 4624995636746387456, 4625682480937041920, 4626346793729261568, 4627099558688587776, 4627952553152217088, 4628919122120409088, 4629857402823376896, 4630477952583204864, 4631181127850131456, 4631977929109143552, 4632880823576559616, 4633903937399816192, 4634633646974697472, 4635290498871853056, 4636034809188057088, 4636878223727132672, 4637833937702354944, 4638812259848552448, 4639425840487071744, 4640121118382882816, 4640908971077533696, 4641801725127163904, 4642813348302290944, 4643585441688190976, 4644234916979015680, 4644970868215119872, 4645804810740695040, 4646749791055773696, 4647767704747376640, 4648374394110869504, 4649061863756136448, 4649840868281286656, 4650723596266635264, 4651723858179522560, 4652537859171942400, 4653180039997685760, 4653907726106099712, 4654732302381744128, 4655666669832634368, 4656723731077398528, 4657323607012147200, 4658003355379957760, 4658773611056726016]
def expK : List Nat := [4509936337181741154, 4510780060623454601, 4511736123916956992, 4512713156271590605, 4513326961111697719, 4514022493475731145, 4514810634405637259, 4515703715474077385, 4516715708725061485, 4517486436689318511, 4518136149105287627, 4518872369996618531, 4519706617297367990, 4520651943859825148, 4521668582272558694, 4522275493724515467, 4522963214608189358, 4523742503919736062, 4524625554693351801, 4525626182842395394, 4526438834085507891, 4527081249592559272, 4527809202156449301, 4528634080518618481, 4529568789647042019, 4530624589640299971, 4531224684944798253, 4531904681759287018, 4532675219508032438, 4533548353236521452, 4534537743277217546, 4535391846658453013, 4536027047719958741, 4536746824315384627, 4537562438742333981, 4538486650283491328, 4539533919715785179, 4540174527625720496, 4540846887782198542, 4541608771824677552, 4542472099008958431, 4543450377385144222, 4544345467811084108, 4544973535241148826, 4545685228227087303, 4546491682072909841, 4547405514224300982, 4548441022180712514, 4549125014620456616, 4549789823880830911, 4550543150974066754, 4551396782664813904, 4552364074171059143, 4553299690946331411, 4553920704459548131, 4554624404545708491, 4555421801714253038, 4556325370474354705, 4557349248346523435, 4558076138782181032, 4558733481259091100, 4559478348160107020, 4560322392659215778, 4561278820440822776, 4562254508917369340, 4562868547678575264, 4563564345024910983, 4564352786671247295, 4565246207488780403, 4566258586668345852, 4567027892414312350, 4567677852220397716, 4568414353487193703, 4569248919096559403, 4570194605199318844, 4571209915127128130, 4571817057751404642, 4572505040868601758, 4573284627598043775, 4574168014822217613, 4575169023952040231, 4575980268370024989, 4576622929068169364, 4577351158708989592, 4578176351531484316, 4579111416901675254, 4580165902978538013, 4580766226981454873, 4581446483280687792, 4582217314599037829, 4583090780929794245, 4584080547553222853, 4584933260602004996, 4585568703556068835, 4586288755029401666, 4587104679518630052, 4588029243453264102, 4589076912008278835, 4589716048221900374, 4590388664564587692, 4591150838328380621, 4592014494816394019, 4592993145927021626, 4593886861413670978, 4594515167987514737, 4595227132552825274, 4596033893712147776, 4596948073858969109, 4597983975990299198, 4598666513226403938, 4599331575924208435, 4600085189989979128, 4600939147136168100, 4601906806978808644, 4602841064207953166, 4603462314116169859, 4604166283032923210, 4604963983666677023, 4605867897123673997, 4606892165322470589, 4607617615947651613, 4608275209113212813, 4609020359688228700, 4609864725794488582, 4610821518064200188, 4611795862387781796, 4612410135344964436, 4613106197673602450, 4613894939486613144]
def tabOk (k : Nat) : Bool :=
  powY k == some (powYW.getD k 0) && (expOk (some (powYW.getD k 0)) && (expR (some (powYW.getD k 0)) == some (expW.getD k 0) && (widen (some (expW.getD k 0)) == some (expV.getD k 0) &&
  (fop .mul .f64 (cl .f64 4562254508917369340) (some (expV.getD k 0)) == some (expK.getD k 0) && (fgt .f32 (some (expW.getD k 0)) (cl .f32 0) && (decide (expV.getD k 0 < 2047 * 2 ^ 52) && decide (expK.getD k 0 < 2047 * 2 ^ 52)))))))
theorem tab_all : (List.range 129).all tabOk = true := by decide +kernel
theorem tab {k : Nat} (hk : k < 129) : powY k = some (powYW.getD k 0) ∧ expOk (powY k) = true ∧ expR (powY k) = some (expW.getD k 0) ∧ widen (expR (powY k)) = some (expV.getD k 0) ∧
    fop .mul .f64 (cl .f64 4562254508917369340) (some (expV.getD k 0)) = some (expK.getD k 0) ∧ fgt .f32 (expR (powY k)) (cl .f32 0) = true ∧ expV.getD k 0 < 2047 * 2 ^ 52 ∧ expK.getD k 0 < 2047 * 2 ^ 52 := by
  have h := List.all_eq_true.1 tab_all k (List.mem_range.2 hk)
  unfold tabOk at h
  simp only [Bool.and_eq_true, beq_iff_eq, decide_eq_true_eq] at h
  obtain ⟨h1, h2, h3, h4, h5, h6, h7, h8⟩ := h
  rw [h1, h3, h4]
  exact ⟨rfl, h2, rfl, rfl, h5, h6, h7, h8⟩
def logOk1 (n : Nat) : Bool := powX n == some (powYW.getD (n + 32) 0) && flt .f64 (gapC (widen (logR (some (expW.getD (n + 32) 0)))) (widen (some (powYW.getD (n + 32) 0)))) (cl .f64 4562254508917369340)
theorem log_all : (List.range 65).all logOk1 = true := by decide +kernel
theorem powX_eq {n : Nat} (hn : n < 65) : powX n = powY (n + 32) := by
  have h := List.all_eq_true.1 log_all n (List.mem_range.2 hn)
  unfold logOk1 at h
  simp only [Bool.and_eq_true, beq_iff_eq] at h
  rw [h.1, (tab (k := n + 32) (by omega)).1]
theorem pow_log {n : Nat} (hn : n < 65) : flt .f64 (gapC (widen (logR (expR (powX n)))) (widen (powX n))) (cl .f64 4562254508917369340) = true := by
  have h := List.all_eq_true.1 log_all n (List.mem_range.2 hn)
  unfold logOk1 at h
  simp only [Bool.and_eq_true, beq_iff_eq] at h
  obtain ⟨t1, -, t3, -⟩ := tab (k := n + 32) (by omega)
  rw [powX_eq hn, t3, t1]
  exact h.2
def sumOk (n m : Nat) : Bool := fop .add .f32 (some (powYW.getD (n + 32) 0)) (some (powYW.getD (m + 32) 0)) == some (powYW.getD (n + m) 0)
theorem sum_all : (List.range 65).all (fun n => (List.range 65).all fun m => sumOk n m) = true := by decide +kernel
theorem pow_sum {n m : Nat} (hn : n < 65) (hm : m < 65) : fop .add .f32 (powX n) (powX m) = powY (n + m) := by
  have h := List.all_eq_true.1 (List.all_eq_true.1 sum_all n (List.mem_range.2 hn)) m (List.mem_range.2 hm)
  unfold sumOk at h
  simp only [beq_iff_eq] at h
  rw [powX_eq hn, powX_eq hm, (tab (k := n + 32) (by omega)).1, (tab (k := m + 32) (by omega)).1, (tab (k := n + m) (by omega)).1]
  exact h
def mulOk (n m : Nat) : Bool :=
  match fop .mul .f64 (some (expV.getD (n + 32) 0)) (some (expV.getD (m + 32) 0)) with
  | none => false
  | some p => decide (p < 2047 * 2 ^ 52) && (if p < expV.getD (n + m) 0 then (match fop .sub .f64 (some (expV.getD (n + m) 0)) (some p) with
    | none => false
    | some d => decide (d < expK.getD (n + m) 0)) else (match fop .sub .f64 (some p) (some (expV.getD (n + m) 0)) with
    | none => false
    | some d => decide (d < expK.getD (n + m) 0)))
theorem mul_all : (List.range 65).all (fun n => (List.range 65).all fun m => mulOk n m) = true := by decide +kernel
theorem gap_lt {p c d K : Nat} (hp : p < 2047 * 2 ^ 52) (hc : c < 2047 * 2 ^ 52) (hK : K < 2047 * 2 ^ 52) (h : (if p < c then fop .sub .f64 (some c) (some p) else fop .sub .f64 (some p) (some c)) = some d) (hd : d < K) :
    flt .f64 (gapC (some p) (some c)) (some K) = true := by
  unfold gapC
  have e : flt .f64 (some p) (some c) = decide (p < c) := by
    have := flt_pos hp hc
    rwa [cl_pos hp, cl_pos hc] at this
  have e2 : (if flt .f64 (some p) (some c) = true then fop .sub .f64 (some c) (some p) else fop .sub .f64 (some p) (some c)) = some d := by
    rw [e]
    simpa using h
  rw [e2]
  have := flt_pos (x := d) (y := K) (by omega) hK
  rw [cl_pos (by omega), cl_pos hK] at this
  rw [this]
  exact decide_eq_true hd
theorem pow_mul {n m : Nat} (hn : n < 65) (hm : m < 65) : flt .f64 (gapC (fop .mul .f64 (widen (expR (powX n))) (widen (expR (powX m)))) (widen (expR (powY (n + m))))) (fop .mul .f64 (cl .f64 4562254508917369340) (widen (expR (powY (n + m))))) = true := by
  have h := List.all_eq_true.1 (List.all_eq_true.1 mul_all n (List.mem_range.2 hn)) m (List.mem_range.2 hm)
  obtain ⟨-, -, -, t4, -⟩ := tab (k := n + 32) (by omega)
  obtain ⟨-, -, -, s4, -⟩ := tab (k := m + 32) (by omega)
  obtain ⟨-, -, -, r4, r5, -, r7, r8⟩ := tab (k := n + m) (by omega)
  rw [powX_eq hn, powX_eq hm, t4, s4, r4, r5]
  unfold mulOk at h
  split at h
  · cases h
  · rename_i p hp
    rw [Bool.and_eq_true, decide_eq_true_eq] at h
    obtain ⟨hp2, h⟩ := h
    rw [hp]
    split at h
    · rename_i hlt
      split at h
      · cases h
      · rename_i d hd
        exact gap_lt hp2 r7 r8 (by rw [if_pos hlt]; exact hd) (by simpa using h)
    · rename_i hlt
      split at h
      · cases h
      · rename_i d hd
        exact gap_lt hp2 r7 r8 (by rw [if_neg hlt]; exact hd) (by simpa using h)
theorem pow_ok {n : Nat} (hn : n < 65) : expOk (powX n) = true ∧ fgt .f32 (expR (powX n)) (cl .f32 0) = true := by
  rw [powX_eq hn]
  obtain ⟨-, t2, -, -, -, t6, -⟩ := tab (k := n + 32) (by omega)
  exact ⟨t2, t6⟩
theorem pow_ok2 {n m : Nat} (hn : n < 65) (hm : m < 65) : expOk (powY (n + m)) = true := (tab (k := n + m) (by omega)).2.1
theorem pow_zero : expOk (cl .f32 0) = true ∧ feq .f32 (expR (cl .f32 0)) (cl .f32 1065353216) = true ∧ feq .f32 (logR (cl .f32 1065353216)) (cl .f32 0) = true := by decide +kernel
end Go.Fl
