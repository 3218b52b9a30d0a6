/- One file put ahead of one other: what a run takes it for. -/
import Derived.Test.YtaechjdhhpjkkaaGreatDoorIa
import Derived.Test.YtaechjdhhpjkkaaGreatDoorX04
set_option linter.unusedVariables false
set_option linter.unusedSimpArgs false
namespace Go.Run
open Go Go.RowKit Go.Proofs
noncomputable section
def msk (f : Nat) : Nat := Bool.rec (Bool.rec (Bool.rec (Bool.rec (Bool.rec (Bool.rec (Bool.rec (Bool.rec (Bool.rec (0) (0) (Nat.blt f 371)) (0) (Nat.blt f 370)) (Bool.rec (Bool.rec (0) (0) (Nat.blt f 368)) (0) (Nat.blt f 367)) (Nat.blt f 369)) (Bool.rec (Bool.rec (Bool.rec (0) (0) (Nat.blt f 365)) (0) (Nat.blt f 364)) (Bool.rec (Bool.rec (0) (0) (Nat.blt f 362)) (0) (Nat.blt f 361)) (Nat.blt f 363)) (Nat.blt f 366)) (Bool.rec (Bool.rec (Bool.rec (Bool.rec (0) (0) (Nat.blt f 359)) (0) (Nat.blt f 358)) (Bool.rec (Bool.rec (0) (0) (Nat.blt f 356)) (0) (Nat.blt f 355)) (Nat.blt f 357)) (Bool.rec (Bool.rec (Bool.rec (0) (0) (Nat.blt f 353)) (0) (Nat.blt f 352)) (Bool.rec (Bool.rec (0) (0) (Nat.blt f 350)) (0) (Nat.blt f 349)) (Nat.blt f 351)) (Nat.blt f 354)) (Nat.blt f 360)) (Bool.rec (Bool.rec (Bool.rec (Bool.rec (Bool.rec (0) (0) (Nat.blt f 347)) (0) (Nat.blt f 346)) (Bool.rec (Bool.rec (0) (0) (Nat.blt f 344)) (0) (Nat.blt f 343)) (Nat.blt f 345)) (Bool.rec (Bool.rec (Bool.rec (262927) (5) (Nat.blt f 341)) (1055) (Nat.blt f 340)) (Bool.rec (Bool.rec (71) (4503668346913551) (Nat.blt f 338)) (22458641409078797123448399039441150152463) (Nat.blt f 337)) (Nat.blt f 339)) (Nat.blt f 342)) (Bool.rec (Bool.rec (Bool.rec (Bool.rec (19023213622105999119) (19) (Nat.blt f 335)) (83087207854311395603287443752634311) (Nat.blt f 334)) (Bool.rec (Bool.rec (8391) (20829169751433159) (Nat.blt f 332)) (8804682991559) (Nat.blt f 331)) (Nat.blt f 333)) (Bool.rec (Bool.rec (Bool.rec (1074268103) (1073746119) (Nat.blt f 329)) (37) (Nat.blt f 328)) (Bool.rec (262927) (10384593871817177683247510831234831) (Nat.blt f 326)) (Nat.blt f 327)) (Nat.blt f 330)) (Nat.blt f 336)) (Nat.blt f 348)) (Bool.rec (Bool.rec (Bool.rec (Bool.rec (Bool.rec (Bool.rec (549772591283) (66483) (Nat.blt f 324)) (8389575) (Nat.blt f 323)) (Bool.rec (Bool.rec (131091) (66491) (Nat.blt f 321)) (5) (Nat.blt f 320)) (Nat.blt f 322)) (Bool.rec (Bool.rec (Bool.rec (1055) (71) (Nat.blt f 318)) (5) (Nat.blt f 317)) (Bool.rec (Bool.rec (5) (4503668346913551) (Nat.blt f 315)) (16806963) (Nat.blt f 314)) (Nat.blt f 316)) (Nat.blt f 319)) (Bool.rec (Bool.rec (Bool.rec (Bool.rec (5) (5) (Nat.blt f 312)) (21) (Nat.blt f 311)) (Bool.rec (Bool.rec (537399539) (33558335) (Nat.blt f 309)) (5) (Nat.blt f 308)) (Nat.blt f 310)) (Bool.rec (Bool.rec (Bool.rec (5) (541) (Nat.blt f 306)) (134219933) (Nat.blt f 305)) (Bool.rec (7) (19) (Nat.blt f 303)) (Nat.blt f 304)) (Nat.blt f 307)) (Nat.blt f 313)) (Bool.rec (Bool.rec (Bool.rec (Bool.rec (Bool.rec (269) (66483) (Nat.blt f 301)) (5) (Nat.blt f 300)) (Bool.rec (Bool.rec (31) (66483) (Nat.blt f 298)) (2199023256295) (Nat.blt f 297)) (Nat.blt f 299)) (Bool.rec (Bool.rec (Bool.rec (1065211) (16455) (Nat.blt f 295)) (605016312200169747668423) (Nat.blt f 294)) (Bool.rec (Bool.rec (27) (3259264009699125022261772349) (Nat.blt f 292)) (5) (Nat.blt f 291)) (Nat.blt f 293)) (Nat.blt f 296)) (Bool.rec (Bool.rec (Bool.rec (Bool.rec (277) (22458641409078797123448399039441150152463) (Nat.blt f 289)) (19023213622105999119) (Nat.blt f 288)) (Bool.rec (Bool.rec (19) (83087207854311395603287443752634311) (Nat.blt f 286)) (8391) (Nat.blt f 285)) (Nat.blt f 287)) (Bool.rec (Bool.rec (Bool.rec (20829169751433159) (8804682991559) (Nat.blt f 283)) (1074268103) (Nat.blt f 282)) (Bool.rec (1073746119) (66483) (Nat.blt f 280)) (Nat.blt f 281)) (Nat.blt f 284)) (Nat.blt f 290)) (Nat.blt f 302)) (Nat.blt f 325)) (Bool.rec (Bool.rec (Bool.rec (Bool.rec (Bool.rec (Bool.rec (Bool.rec (16806963) (16806963) (Nat.blt f 278)) (16806963) (Nat.blt f 277)) (Bool.rec (Bool.rec (16806963) (16806963) (Nat.blt f 275)) (7) (Nat.blt f 274)) (Nat.blt f 276)) (Bool.rec (Bool.rec (Bool.rec (8647) (29) (Nat.blt f 272)) (27) (Nat.blt f 271)) (Bool.rec (Bool.rec (31) (147573954926138637439) (Nat.blt f 269)) (285) (Nat.blt f 268)) (Nat.blt f 270)) (Nat.blt f 273)) (Bool.rec (Bool.rec (Bool.rec (Bool.rec (132159) (67116639) (Nat.blt f 266)) (179) (Nat.blt f 265)) (Bool.rec (Bool.rec (29) (5) (Nat.blt f 263)) (13) (Nat.blt f 262)) (Nat.blt f 264)) (Bool.rec (Bool.rec (Bool.rec (9) (16539) (Nat.blt f 260)) (285) (Nat.blt f 259)) (Bool.rec (Bool.rec (9) (9345882390535) (Nat.blt f 257)) (16492928172733) (Nat.blt f 256)) (Nat.blt f 258)) (Nat.blt f 261)) (Nat.blt f 267)) (Bool.rec (Bool.rec (Bool.rec (Bool.rec (Bool.rec (2228227) (131) (Nat.blt f 254)) (5) (Nat.blt f 253)) (Bool.rec (Bool.rec (4109) (4147) (Nat.blt f 251)) (51) (Nat.blt f 250)) (Nat.blt f 252)) (Bool.rec (Bool.rec (Bool.rec (550829563917) (4101) (Nat.blt f 248)) (19) (Nat.blt f 247)) (Bool.rec (Bool.rec (16777277) (35184372089843) (Nat.blt f 245)) (5) (Nat.blt f 244)) (Nat.blt f 246)) (Nat.blt f 249)) (Bool.rec (Bool.rec (Bool.rec (Bool.rec (11) (19) (Nat.blt f 242)) (5) (Nat.blt f 241)) (Bool.rec (Bool.rec (5) (65587) (Nat.blt f 239)) (7) (Nat.blt f 238)) (Nat.blt f 240)) (Bool.rec (Bool.rec (Bool.rec (2255) (66483) (Nat.blt f 236)) (21) (Nat.blt f 235)) (Bool.rec (21) (531) (Nat.blt f 233)) (Nat.blt f 234)) (Nat.blt f 237)) (Nat.blt f 243)) (Nat.blt f 255)) (Bool.rec (Bool.rec (Bool.rec (Bool.rec (Bool.rec (Bool.rec (1079) (1168231106191) (Nat.blt f 231)) (119) (Nat.blt f 230)) (Bool.rec (Bool.rec (2535303637197637149441289889735) (4229) (Nat.blt f 228)) (79228238091655706676522137543) (Nat.blt f 227)) (Nat.blt f 229)) (Bool.rec (Bool.rec (Bool.rec (132147) (19) (Nat.blt f 225)) (525) (Nat.blt f 224)) (Bool.rec (Bool.rec (5) (77) (Nat.blt f 222)) (749019592093908130998168547243562859198691857383367) (Nat.blt f 221)) (Nat.blt f 223)) (Nat.blt f 226)) (Bool.rec (Bool.rec (Bool.rec (Bool.rec (65619) (65619) (Nat.blt f 219)) (66483) (Nat.blt f 218)) (Bool.rec (Bool.rec (5) (10384593871817177683247510831234831) (Nat.blt f 216)) (66483) (Nat.blt f 215)) (Nat.blt f 217)) (Bool.rec (Bool.rec (Bool.rec (15) (19) (Nat.blt f 213)) (31) (Nat.blt f 212)) (Bool.rec (144137180457993787) (1074266355) (Nat.blt f 210)) (Nat.blt f 211)) (Nat.blt f 214)) (Nat.blt f 220)) (Bool.rec (Bool.rec (Bool.rec (Bool.rec (Bool.rec (1101) (537411803) (Nat.blt f 208)) (4440503) (Nat.blt f 207)) (Bool.rec (Bool.rec (9223372299384651807) (540691) (Nat.blt f 205)) (11) (Nat.blt f 204)) (Nat.blt f 206)) (Bool.rec (Bool.rec (Bool.rec (11) (19) (Nat.blt f 202)) (65555) (Nat.blt f 201)) (Bool.rec (Bool.rec (19) (278539) (Nat.blt f 199)) (131) (Nat.blt f 198)) (Nat.blt f 200)) (Nat.blt f 203)) (Bool.rec (Bool.rec (Bool.rec (Bool.rec (1) (327997) (Nat.blt f 196)) (1025) (Nat.blt f 195)) (Bool.rec (Bool.rec (381) (9007201402228893) (Nat.blt f 193)) (2252315277394397) (Nat.blt f 192)) (Nat.blt f 194)) (Bool.rec (Bool.rec (Bool.rec (51) (1103814986235) (Nat.blt f 190)) (16793629) (Nat.blt f 189)) (Bool.rec (19) (4835712501848180238069815) (Nat.blt f 187)) (Nat.blt f 188)) (Nat.blt f 191)) (Nat.blt f 197)) (Nat.blt f 209)) (Nat.blt f 232)) (Nat.blt f 279)) (Bool.rec (Bool.rec (Bool.rec (Bool.rec (Bool.rec (Bool.rec (Bool.rec (Bool.rec (147) (5) (Nat.blt f 185)) (19) (Nat.blt f 184)) (Bool.rec (Bool.rec (5) (327) (Nat.blt f 182)) (2199023256295) (Nat.blt f 181)) (Nat.blt f 183)) (Bool.rec (Bool.rec (Bool.rec (18014398543038407) (5) (Nat.blt f 179)) (5) (Nat.blt f 178)) (Bool.rec (Bool.rec (13) (16661) (Nat.blt f 176)) (5) (Nat.blt f 175)) (Nat.blt f 177)) (Nat.blt f 180)) (Bool.rec (Bool.rec (Bool.rec (Bool.rec (0) (0) (Nat.blt f 173)) (1180736298856682127591) (Nat.blt f 172)) (Bool.rec (Bool.rec (79) (19) (Nat.blt f 170)) (19) (Nat.blt f 169)) (Nat.blt f 171)) (Bool.rec (Bool.rec (Bool.rec (3) (71) (Nat.blt f 167)) (71) (Nat.blt f 166)) (Bool.rec (Bool.rec (19) (19) (Nat.blt f 164)) (594912002450663878599) (Nat.blt f 163)) (Nat.blt f 165)) (Nat.blt f 168)) (Nat.blt f 174)) (Bool.rec (Bool.rec (Bool.rec (Bool.rec (Bool.rec (251675935) (65619) (Nat.blt f 161)) (11) (Nat.blt f 160)) (Bool.rec (Bool.rec (66483) (15) (Nat.blt f 158)) (66483) (Nat.blt f 157)) (Nat.blt f 159)) (Bool.rec (Bool.rec (Bool.rec (504373101) (33570127) (Nat.blt f 155)) (504373101) (Nat.blt f 154)) (Bool.rec (Bool.rec (19) (17596514574653) (Nat.blt f 152)) (5) (Nat.blt f 151)) (Nat.blt f 153)) (Nat.blt f 156)) (Bool.rec (Bool.rec (Bool.rec (Bool.rec (2263582245623) (19) (Nat.blt f 149)) (4357889727) (Nat.blt f 148)) (Bool.rec (Bool.rec (119) (9029207745118651) (Nat.blt f 146)) (311) (Nat.blt f 145)) (Nat.blt f 147)) (Bool.rec (Bool.rec (Bool.rec (8935679524883) (7) (Nat.blt f 143)) (9149037336855067) (Nat.blt f 142)) (Bool.rec (66483) (17600777028595) (Nat.blt f 140)) (Nat.blt f 141)) (Nat.blt f 144)) (Nat.blt f 150)) (Nat.blt f 162)) (Bool.rec (Bool.rec (Bool.rec (Bool.rec (Bool.rec (Bool.rec (7) (2101039) (Nat.blt f 138)) (581976472751) (Nat.blt f 137)) (Bool.rec (Bool.rec (69423) (27) (Nat.blt f 135)) (21) (Nat.blt f 134)) (Nat.blt f 136)) (Bool.rec (Bool.rec (Bool.rec (69423) (27) (Nat.blt f 132)) (66045) (Nat.blt f 131)) (Bool.rec (Bool.rec (2199149100207) (5106502699017739512855134237) (Nat.blt f 129)) (5) (Nat.blt f 128)) (Nat.blt f 130)) (Nat.blt f 133)) (Bool.rec (Bool.rec (Bool.rec (Bool.rec (549755946995) (4647750008412570687) (Nat.blt f 126)) (2103) (Nat.blt f 125)) (Bool.rec (Bool.rec (132623) (74057192409927901375) (Nat.blt f 123)) (8796227634511) (Nat.blt f 122)) (Nat.blt f 124)) (Bool.rec (Bool.rec (Bool.rec (69260545359) (20426010943356750102455122975) (Nat.blt f 120)) (2923003971560093291123168138537876760321514930163) (Nat.blt f 119)) (Bool.rec (13) (21) (Nat.blt f 117)) (Nat.blt f 118)) (Nat.blt f 121)) (Nat.blt f 127)) (Bool.rec (Bool.rec (Bool.rec (Bool.rec (Bool.rec (1107300861) (0) (Nat.blt f 115)) (19) (Nat.blt f 114)) (Bool.rec (Bool.rec (524353) (5) (Nat.blt f 112)) (14687855) (Nat.blt f 111)) (Nat.blt f 113)) (Bool.rec (Bool.rec (Bool.rec (68719478771) (2251906935163855) (Nat.blt f 109)) (7) (Nat.blt f 108)) (Bool.rec (Bool.rec (87095) (9671441146813971420679927) (Nat.blt f 106)) (66589) (Nat.blt f 105)) (Nat.blt f 107)) (Nat.blt f 110)) (Bool.rec (Bool.rec (Bool.rec (Bool.rec (16947) (5) (Nat.blt f 103)) (4398046511581) (Nat.blt f 102)) (Bool.rec (Bool.rec (3) (0) (Nat.blt f 100)) (17247509535) (Nat.blt f 99)) (Nat.blt f 101)) (Bool.rec (Bool.rec (Bool.rec (73861163094217066365) (7) (Nat.blt f 97)) (2127967) (Nat.blt f 96)) (Bool.rec (7859) (504373101) (Nat.blt f 94)) (Nat.blt f 95)) (Nat.blt f 98)) (Nat.blt f 104)) (Nat.blt f 116)) (Nat.blt f 139)) (Bool.rec (Bool.rec (Bool.rec (Bool.rec (Bool.rec (Bool.rec (Bool.rec (5) (15) (Nat.blt f 92)) (537399539) (Nat.blt f 91)) (Bool.rec (Bool.rec (19) (4223) (Nat.blt f 89)) (7) (Nat.blt f 88)) (Nat.blt f 90)) (Bool.rec (Bool.rec (Bool.rec (21) (40250958042666271) (Nat.blt f 86)) (5) (Nat.blt f 85)) (Bool.rec (Bool.rec (2305843009725399103) (1074299127) (Nat.blt f 83)) (4838064515759641737569983) (Nat.blt f 82)) (Nat.blt f 84)) (Nat.blt f 87)) (Bool.rec (Bool.rec (Bool.rec (Bool.rec (9690297184214265886802419) (29362679) (Nat.blt f 80)) (2256217456540087) (Nat.blt f 79)) (Bool.rec (Bool.rec (9070970995187) (4325839415700957879) (Nat.blt f 77)) (316912685474814416661220764543) (Nat.blt f 76)) (Nat.blt f 78)) (Bool.rec (Bool.rec (Bool.rec (15) (66483) (Nat.blt f 74)) (37910829) (Nat.blt f 73)) (Bool.rec (Bool.rec (17188391667) (151115727469970589747187) (Nat.blt f 71)) (5) (Nat.blt f 70)) (Nat.blt f 72)) (Nat.blt f 75)) (Nat.blt f 81)) (Bool.rec (Bool.rec (Bool.rec (Bool.rec (Bool.rec (0) (19) (Nat.blt f 68)) (316912838952437276284744179709) (Nat.blt f 67)) (Bool.rec (Bool.rec (19) (5) (Nat.blt f 65)) (51) (Nat.blt f 64)) (Nat.blt f 66)) (Bool.rec (Bool.rec (Bool.rec (2097283) (311) (Nat.blt f 62)) (7) (Nat.blt f 61)) (Bool.rec (Bool.rec (4225335) (65651) (Nat.blt f 59)) (295688966056295306675) (Nat.blt f 58)) (Nat.blt f 60)) (Nat.blt f 63)) (Bool.rec (Bool.rec (Bool.rec (Bool.rec (295147905181504570311) (19) (Nat.blt f 56)) (71) (Nat.blt f 55)) (Bool.rec (Bool.rec (4157) (39) (Nat.blt f 53)) (2199561111231) (Nat.blt f 52)) (Nat.blt f 54)) (Bool.rec (Bool.rec (Bool.rec (1005) (65559) (Nat.blt f 50)) (138351151749653378483) (Nat.blt f 49)) (Bool.rec (33620471) (262259) (Nat.blt f 47)) (Nat.blt f 48)) (Nat.blt f 51)) (Nat.blt f 57)) (Nat.blt f 69)) (Bool.rec (Bool.rec (Bool.rec (Bool.rec (Bool.rec (Bool.rec (2113779) (7) (Nat.blt f 45)) (67240435) (Nat.blt f 44)) (Bool.rec (Bool.rec (65735) (21) (Nat.blt f 42)) (27) (Nat.blt f 41)) (Nat.blt f 43)) (Bool.rec (Bool.rec (Bool.rec (281474976711165) (5) (Nat.blt f 39)) (702342826256273603086707106465568295829491) (Nat.blt f 38)) (Bool.rec (Bool.rec (0) (1037) (Nat.blt f 36)) (85) (Nat.blt f 35)) (Nat.blt f 37)) (Nat.blt f 40)) (Bool.rec (Bool.rec (Bool.rec (Bool.rec (147) (1057810125939866725310223) (Nat.blt f 33)) (4325831) (Nat.blt f 32)) (Bool.rec (Bool.rec (67357383) (70437463917819) (Nat.blt f 30)) (8590002429) (Nat.blt f 29)) (Nat.blt f 31)) (Bool.rec (Bool.rec (Bool.rec (8388669) (1055602134494991) (Nat.blt f 27)) (32883) (Nat.blt f 26)) (Bool.rec (711) (17011) (Nat.blt f 24)) (Nat.blt f 25)) (Nat.blt f 28)) (Nat.blt f 34)) (Bool.rec (Bool.rec (Bool.rec (Bool.rec (Bool.rec (5) (19) (Nat.blt f 22)) (16810611) (Nat.blt f 21)) (Bool.rec (Bool.rec (8796126839539) (19) (Nat.blt f 19)) (71) (Nat.blt f 18)) (Nat.blt f 20)) (Bool.rec (Bool.rec (Bool.rec (18899266045742724415247) (2181042119) (Nat.blt f 16)) (5) (Nat.blt f 15)) (Bool.rec (Bool.rec (2267743825679) (5) (Nat.blt f 13)) (1073807987) (Nat.blt f 12)) (Nat.blt f 14)) (Nat.blt f 17)) (Bool.rec (Bool.rec (Bool.rec (Bool.rec (19) (5) (Nat.blt f 10)) (616328070077) (Nat.blt f 9)) (Bool.rec (Bool.rec (541) (275) (Nat.blt f 7)) (134252733) (Nat.blt f 6)) (Nat.blt f 8)) (Bool.rec (Bool.rec (Bool.rec (5) (765) (Nat.blt f 4)) (0) (Nat.blt f 3)) (Bool.rec (0) (0) (Nat.blt f 1)) (Nat.blt f 2)) (Nat.blt f 5)) (Nat.blt f 11)) (Nat.blt f 23)) (Nat.blt f 46)) (Nat.blt f 93)) (Nat.blt f 186)
def ins1 (b c o : Nat) (h : Hp) (x : Blk) : List V → Option (V × Hp)
  | [c1, c2] => ob (loadC h c o 2) fun vs => bt (Nat.blt h.next 1000000) (some (.sl h.next 0 2, ⟨Nat.add h.next 1, Tr.set 40 (kill (b :: x.anc) h).t h.next ⟨51, 2, vs ++ [c1, c2], true, []⟩⟩))
  | _ => none
def insP : Prim := fun args h => match args with
  | [.sl b 0 1, .int .i64 (.ofNat 0), .sl c o 1] => ob (getB h b) fun x => ob (getB h c) fun z => bt x.opn (bt (band (bnot (memB c x.anc)) (allB (fun a => Nat.blt a h.next) x.anc)) (bt (Nat.beq x.ty 51) (bt (Nat.beq x.sz 2) (bt (Nat.beq z.ty 51) (bt (bnot (Nat.beq b c)) (ins1 b c o h x x.cells))))))
  | args => ob (fOf Tryz.prog msk 56) fun fn => callB (eOf Tryz.prog) (fun _ _ _ => none) fn args h
end
section
variable {ln : Nat} {w0 : World} {U : Nat → Prop} {G : Gh} {h h' : Hp} {w : World}
theorem HR.congr (k : HR ln w0 U G h w) (hn : h'.next = h.next) (hg : ∀ b, getB h' b = getB h b) : HR ln w0 U G h' w := by
  refine ⟨fun b x hx => k.blk b x (by rw [← hg]; exact hx), fun b x hx => by rw [hn]; exact k.own b x (by rw [← hg]; exact hx), fun b y hy => by rw [hn]; exact k.gl b y hy, fun b c x z y q hx hz => k.sep b c x z y q (by rw [← hg]; exact hx) (by rw [← hg]; exact hz), by rw [hn]; exact k.lim, k.size, k.below, fun b hb => by rw [hn]; exact k.hid b hb⟩
theorem getB_killM (hl : ∀ b x, getB h b = some x → b < 1000000) (l : List Nat) (c : Nat) : getB (kill l h) c = if c ∈ l then (getB h c).map Blk.dead else getB h c := by
  induction l generalizing h with
  | nil => rw [if_neg (by simp)]; rfl
  | cons a l ih =>
    rw [kill_cons]
    cases ha : getB h a with
    | none =>
      show getB (kill l h) c = _
      rw [ih hl]
      by_cases h1 : c ∈ l
      · rw [if_pos h1, if_pos (List.mem_cons_of_mem _ h1)]
      · rw [if_neg h1]
        by_cases h2 : c = a
        · subst h2
          rw [if_pos List.mem_cons_self, ha]
          rfl
        · rw [if_neg (by simp [h1, h2])]
    | some x =>
      show getB (kill l (setB h a x.dead)) c = _
      have hla := hl a x ha
      rw [ih (fun b y hy => by
        rw [getB_setB h a _ b hla] at hy
        split at hy
        · rename_i e; rw [e]; exact hla
        · exact hl b y hy), getB_setB h a _ c hla]
      by_cases h2 : c = a
      · subst h2
        rw [if_pos rfl, if_pos List.mem_cons_self, ha]
        by_cases h1 : c ∈ l
        · rw [if_pos h1]; rfl
        · rw [if_neg h1]; rfl
      · rw [if_neg h2]
        by_cases h1 : c ∈ l
        · rw [if_pos h1, if_pos (List.mem_cons_of_mem _ h1)]
        · rw [if_neg h1, if_neg (by simp [h1, h2])]
theorem RepA.three {x y z : V} {vs : List Value} (r : RepA ln G [x, y, z] vs) : ∃ u v t, vs = [u, v, t] ∧ RepV ln G x u ∧ RepV ln G y v ∧ RepV ln G z t := by
  match vs, r with
  | [u, v, t], r => exact ⟨u, v, t, rfl, r.2 0 x u rfl rfl, r.2 1 y v rfl rfl, r.2 2 z t rfl rfl⟩
  | [], r => exact absurd r.1 (by simp)
  | [_], r => exact absurd r.1 (by simp)
  | [_, _], r => exact absurd r.1 (by simp)
  | _ :: _ :: _ :: _ :: _, r => exact absurd r.1 (by simp)
theorem noFr {k : Nat} {fr : Nat × Nat} (hf : Fr k 51 fr) : fr.1 = fr.2 := by
  rcases hf with h | ⟨_, h⟩
  · exact h
  · exact absurd rfl h
theorem frozen_no {p : Nat} {cur : Array Value} {t : TypeId} {fr : Nat × Nat} (h : w.heap[p]? = some (.cells cur t fr)) (hf : fr.1 = fr.2) (o : Nat) : w.frozen? ⟨p, o, none⟩ = false := by
  obtain ⟨lo, hi⟩ := fr
  simp only [World.frozen?, h]
  have hf : lo = hi := hf
  subst hf
  simp
theorem ins1_ok (k : HR ln w0 U G h w) {b c o : Nat} {x z : Blk} {c1 c2 : V} (hb : getB h b = some x) (hz : getB h c = some z) (hx : x.cells = [c1, c2]) (ho : x.opn = true) (ha : c ∉ x.anc) (hal : ∀ a ∈ x.anc, a < h.next) (ht : x.ty = 51) (hs : x.sz = 2) (htz : z.ty = 51) (hbc : b ≠ c) {v : V}
    (e : ins1 b c o h x [c1, c2] = some (v, h')) {vs : List Value} (hA : RepA ln G [.sl b 0 1, .int .i64 0, .sl c o 1] vs) :
    Calls Tryz.prog 56 vs.toArray w fun e w' => ∃ vr, e = .returned vr ∧ ∃ H, G.Le H ∧ RepV ln H v vr ∧ HR ln w0 U H h' w' := by
  obtain ⟨l, hl, e⟩ := ob_some e
  obtain ⟨hn, e⟩ := bt_some e
  have hn : h.next < 1000000 := blt_lt hn
  cases e
  obtain ⟨sv, iv, vv, rfl, rs, ri, rv⟩ := hA.three
  cases ri
  obtain ⟨y, cap, hg, hc, hlc, rfl⟩ := rs.of_sl
  obtain ⟨q, cv, hq, hcv, hlv, rfl⟩ := rv.of_sl
  obtain ⟨y', cur, fr, h1, h2, h3, h4, h5, h6, h7, h8⟩ := k.blk b x hb (Gh.ne hg)
  rw [hg] at h1
  cases h1
  obtain ⟨q', curz, frz, z1, z2, z3, z4, z5, z6, z7, z8⟩ := k.blk c z hz (Gh.ne hq)
  rw [hq] at z1
  cases z1
  have hbl := k.lt hb
  rw [ht] at h6
  rw [htz] at z6
  have hfr := noFr h6
  have hfz := noFr z6
  rw [h2, hs] at hc
  rw [hx] at h5
  have h5 : y.o + 2 ≤ y.k := h5
  obtain ⟨y2, cs, g1, g2, g3, g4⟩ := k.loaded (b := b) (off := 0) (n := 2) (l := [c1, c2]) hg (by unfold loadC; rw [hb]; show takeN (dropN x.cells 0) 2 = _; rw [hx]; rfl)
  rw [hg] at g1
  cases g1
  obtain ⟨q2, us, f1, f2, f3, f4⟩ := k.loaded hq hl
  rw [hq] at f1
  cases f1
  have hll : l.length = 2 := f2.1.trans f3
  obtain ⟨a1, a2, rfl⟩ : ∃ a1 a2, l = [a1, a2] := by
    match l, hll with
    | [a1, a2], _ => exact ⟨a1, a2, rfl⟩
  have hpq : q.p ≠ y.p := fun hp => by
    have := (k.sep b c x z y q hb hz ho hbc hg hq hp.symm).1
    rcases this with h0 | h0
    · exact ha h0
    · obtain ⟨z0, hz0, hl⟩ := ob_some (show ob (getB h c) (fun x => takeN (dropN x.cells o) 2) = some [a1, a2] from hl)
      rw [hz] at hz0
      cases hz0
      rw [h0, dropN_eq] at hl
      simp at hl
      cases hl
  have hcs : ∀ j v, cs[j]? = some v → w.cell? ⟨y.p, y.o + 0 + j, none⟩ = some v := g4
  have hus : ∀ j v, us[j]? = some v → w.cell? ⟨q.p, q.o + o + j, none⟩ = some v := f4
  have hone : Nat.succ h.next = h.next + 1 := rfl
  rcases Nat.lt_or_ge cap 2 with hcap | hcap
  · obtain rfl : cap = 1 := by omega
    refine (YtaechjdhhpjkkaaGreatDoor.insert_grow y.p (y.o + 0) q.p (q.o + o) cv cs us w g3 f3 hcs hus g2.one f2.one).mono ?_
    rintro e w' ⟨N, ROW, hN, hR, hRone, rfl, rfl⟩
    refine ⟨_, rfl, ?_⟩
    have kd := HR.killed (b :: x.anc) k
    have hkn : (kill (b :: x.anc) h).next = h.next := kill_next _ _
    obtain ⟨H, hle, hH, kb⟩ := kd.born (x := ⟨51, 2, [.junk, .junk, .junk, .junk], true, []⟩) (cur := ROW) (fr := (0, 0)) (by show 4 ≤ ROW.size; omega) (fun i c hi => by
      have hi4 : i < 4 := (List.getElem?_eq_some_iff.1 hi).1
      have hir : i < ROW.size := by omega
      refine ⟨ROW[i], Array.getElem?_eq_getElem hir, ?_, hRone _ (Array.getElem_mem hir)⟩
      match i, hi4 with
      | 0, _ => cases hi; exact .junk _
      | 1, _ => cases hi; exact .junk _
      | 2, _ => cases hi; exact .junk _
      | 3, _ => cases hi; exact .junk _) (.inl rfl) (by rw [hkn]; exact hn)
    rw [hkn] at hH kb
    have hgb : getB ⟨h.next + 1, Tr.set 40 (kill (b :: x.anc) h).t h.next ⟨51, 2, [.junk, .junk, .junk, .junk], true, []⟩⟩ h.next = some ⟨51, 2, [.junk, .junk, .junk, .junk], true, []⟩ := by
      rw [getB_set (kill (b :: x.anc) h) (h.next + 1) h.next _ _ hn, if_pos rfl]
    obtain ⟨y3, p1, p2, _, _⟩ := kb.drew.put hgb hH rfl (off := 0) (vs := [a1, a2]) (cs := [a1, a2, .junk, .junk]) rfl (f2.mono hle)
    have hH' : H h.next = some ⟨w.heap.size, 0, ROW.size, 2⟩ := hH
    rw [hH'] at p1
    cases p1
    have hlim : (h.next : Nat) < 1000000 := hn
    have hgb2 : getB (kill [] (setB ⟨h.next + 1, Tr.set 40 (kill (b :: x.anc) h).t h.next ⟨51, 2, [.junk, .junk, .junk, .junk], true, []⟩⟩ h.next ((⟨51, 2, [.junk, .junk, .junk, .junk], true, []⟩ : Blk).put [a1, a2, .junk, .junk]))) h.next = some ⟨51, 2, [a1, a2, .junk, .junk], true, []⟩ := by
      rw [kill_nil, getB_setB _ _ _ _ hlim, if_pos rfl]
      rfl
    obtain ⟨y4, r1, r2, _, _⟩ := p2.drew.put hgb2 hH' rfl (off := 2) (vs := [c1, c2]) (cs := [a1, a2, c1, c2]) rfl (g2.mono hle)
    rw [hH'] at r1
    cases r1
    refine ⟨H, hle, ?_, ?_⟩
    · have := RepV.sl (ln := ln) (len := 2) (off := 0) (cap := N) hH' (by show 0 + 0 + N * 2 = ROW.size; omega) hN
      simpa using this
    · have r3 := r2.congr (h' := ⟨h.next + 1, Tr.set 40 (kill (b :: x.anc) h).t h.next ⟨51, 2, [a1, a2, c1, c2], true, []⟩⟩) rfl (fun d => by
        rw [kill_nil, getB_setB _ _ _ _ hlim, kill_nil, getB_setB _ _ _ _ hlim, getB_set _ _ _ _ _ hlim]
        by_cases hd : d = h.next
        · rw [if_pos hd, if_pos hd]; rfl
        · rw [if_neg hd, if_neg hd, if_neg hd]
          have hs := getB_set (kill (b :: x.anc) h) (h.next + 1) h.next ⟨51, 2, [.junk, .junk, .junk, .junk], true, []⟩ d hlim
          rw [if_neg (show ¬ d = h.next from hd)] at hs
          exact hs.symm)
      simpa using r3
  · have hsz : 4 ≤ cur.size - y.o := by omega
    have hcell : ∀ j, j < 4 → (w.cell? ⟨y.p, y.o + 0 + j, none⟩).isSome = true := fun j hj => by
      have : y.o + 0 + j < cur.size := by omega
      have hc : cur[y.o + 0 + j]? = some cur[y.o + 0 + j] := Array.getElem?_eq_getElem this
      have hcc : w.cell? ⟨y.p, y.o + 0 + j, none⟩ = some cur[y.o + 0 + j] := by
        unfold World.cell?
        rw [h3]
        exact hc
      rw [hcc]
      rfl
    refine (YtaechjdhhpjkkaaGreatDoor.insert_shift y.p (y.o + 0) cap q.p (q.o + o) cv cs us w hcap hpq g3 f3 hcs hcell (fun j _ => frozen_no h3 hfr _) hus g2.one f2.one z.ty x.ty curz.size cur.size
      (by simp [World.shape?, z3]) (by simp [World.shape?, h3]) (by omega) (frozen_no z3 hfz _) (frozen_no z3 hfz _)).mono ?_
    rintro e w' ⟨rfl, rfl⟩
    refine ⟨_, rfl, ?_⟩
    obtain ⟨H, hle, hH, km, _, _⟩ := k.drew.more hb ho (off := 0) (Nat.zero_le _) g2 hg (by rw [hx]; show y.o + 2 + 2 ≤ y.k; omega) hn
    have hgb : getB ⟨h.next + 1, Tr.set 40 (setB h b x.shut).t h.next ⟨x.ty, x.sz, x.cells.drop 0 ++ [c1, c2], true, b :: x.anc⟩⟩ h.next = some ⟨51, 2, [c1, c2, c1, c2], true, b :: x.anc⟩ := by
      rw [getB_set (setB h b x.shut) (h.next + 1) h.next _ _ hn, if_pos rfl, ht, hs, hx]
      rfl
    obtain ⟨y3, p1, p2, _, _⟩ := km.put hgb hH rfl (off := 0) (vs := [a1, a2]) (cs := [a1, a2, c1, c2]) rfl (f2.mono hle)
    rw [hH] at p1
    cases p1
    refine ⟨H, hle, ?_, ?_⟩
    · have := RepV.sl (ln := ln) (len := 2) (off := 0) (cap := cap) hH (by show y.o + 0 + 0 + cap * y.s = y.k; rw [h2, hs]; omega) hcap
      simpa using this
    · have hlim : (b : Nat) < 1000000 := by omega
      have hkl := k.lim
      have r3 := p2.congr (h' := ⟨h.next + 1, Tr.set 40 (kill (b :: x.anc) h).t h.next ⟨51, 2, [a1, a2, c1, c2], true, []⟩⟩) (by rw [kill_next]; rfl) (fun d => by
        have hbn : b ≠ h.next := by omega
        have hmid : ∀ d, getB (setB ⟨h.next + 1, Tr.set 40 (setB h b x.shut).t h.next ⟨x.ty, x.sz, x.cells.drop 0 ++ [c1, c2], true, b :: x.anc⟩⟩ h.next ((⟨51, 2, [c1, c2, c1, c2], true, b :: x.anc⟩ : Blk).put [a1, a2, c1, c2])) d = if d = h.next then some ⟨51, 2, [a1, a2, c1, c2], true, []⟩ else if d = b then some x.shut else getB h d := fun d => by
          rw [getB_setB _ _ _ _ hn]
          by_cases hd : d = h.next
          · rw [if_pos hd, if_pos hd]; rfl
          · rw [if_neg hd, if_neg hd, getB_set _ _ _ _ _ hn, if_neg hd, getB_setB _ _ _ _ hlim]
        have hnm : h.next ∉ b :: x.anc := fun hm => by
          rcases List.mem_cons.1 hm with h1 | h1
          · omega
          · have := hal _ h1
            omega
        refine Eq.trans ?_ (getB_killM (h := setB ⟨h.next + 1, Tr.set 40 (setB h b x.shut).t h.next ⟨x.ty, x.sz, x.cells.drop 0 ++ [c1, c2], true, b :: x.anc⟩⟩ h.next ((⟨51, 2, [c1, c2, c1, c2], true, b :: x.anc⟩ : Blk).put [a1, a2, c1, c2])) (fun d z hd => by
          rw [hmid] at hd
          split at hd
          · omega
          · split at hd
            · omega
            · have := k.own d z hd
              omega) (b :: x.anc) d).symm
        rw [hmid, getB_set (kill (b :: x.anc) h) (h.next + 1) h.next _ _ hn, getB_killM (fun d z hd => by have := k.own d z hd; omega) (b :: x.anc) d]
        by_cases hd : d = h.next
        · subst hd
          rw [if_pos rfl, if_pos rfl, if_neg hnm]
        · rw [if_neg hd, if_neg hd]
          by_cases hdb : d = b
          · subst hdb
            rw [if_pos List.mem_cons_self, if_pos rfl, if_pos List.mem_cons_self, hb]
            rfl
          · rw [if_neg hdb])
      have hw : (w.drew.setCells y.p (y.o + 0 + 2) cs).setCells y.p (y.o + 0) us = (w.drew.setCells y.p (y.o + x.cells.length) cs).setCells y.p (y.o + 0 + 0) us := by rw [hx]; rfl
      rw [hw]
      exact r3
end
end Go.Run
