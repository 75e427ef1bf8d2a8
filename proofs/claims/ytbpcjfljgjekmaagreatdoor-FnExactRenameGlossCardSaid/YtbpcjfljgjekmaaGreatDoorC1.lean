/- Contracts of functions of the program, written by a program of this claim. No conditions. -/
import Derived.Test.YtbpcjfljgjekmaaGreatDoorC0
set_option linter.unusedVariables false
set_option maxRecDepth 100000
namespace Go.Proofs.YtbpcjfljgjekmaaGreatDoor
open Go
noncomputable def step_laws_markEntryS_0 (s : Int × Int × (List (ByteArray × ((((Int × (Int × (Int × (Int × (Int × Bool))))) × ((Int × Int) × ((Int × (Int × Bool)) × (ByteArray × Int)))) × (Bool × ((Int × (Int × (Int × (Int × (Int × Bool))))) × ((Int × Int) × ((Int × (Int × Bool)) × (ByteArray × Int)))))) × (Int × Int))))) : Option ((Int × Int × (List (ByteArray × ((((Int × (Int × (Int × (Int × (Int × Bool))))) × ((Int × Int) × ((Int × (Int × Bool)) × (ByteArray × Int)))) × (Bool × ((Int × (Int × (Int × (Int × (Int × Bool))))) × ((Int × Int) × ((Int × (Int × Bool)) × (ByteArray × Int)))))) × (Int × Int))))) ⊕ ((Int × (List (ByteArray × ((((Int × (Int × (Int × (Int × (Int × Bool))))) × ((Int × Int) × ((Int × (Int × Bool)) × (ByteArray × Int)))) × (Bool × ((Int × (Int × (Int × (Int × (Int × Bool))))) × ((Int × Int) × ((Int × (Int × Bool)) × (ByteArray × Int)))))) × (Int × Int))))))) :=
 bif (decide (s.2.1 < (s.2.2.length : Int))) then
  match F_laws_markText (s.1) with
  | none => none
  | some y100 =>
   bif decide (0 ≤ s.2.1) && decide (s.2.1 < (s.2.2.length : Int)) then
    let v101 := s.2.2.getD (s.2.1).toNat dz30
    let v102 := s.2.2.set (s.2.1).toNat ((y100, v101.2))
    let v103 := IntKind.i64.wrap (s.1 + 1)
    bif decide (0 ≤ s.2.1) && decide (s.2.1 < (v102.length : Int)) then
     let v104 := v102.getD (s.2.1).toNat dz30
     let v105 := v102.set (s.2.1).toNat ((v104.1, (((v103, v104.2.1.1.1.2), v104.2.1.1.2), v104.2.1.2), v104.2.2))
     let v106 := IntKind.i64.wrap (v103 + 1)
     bif decide (0 ≤ s.2.1) && decide (s.2.1 < (v105.length : Int)) then
      let v107 := v105.getD (s.2.1).toNat dz30
      let v108 := v105.set (s.2.1).toNat ((v107.1, (((v107.2.1.1.1.1, v106, v107.2.1.1.1.2.2), v107.2.1.1.2), v107.2.1.2), v107.2.2))
      let v109 := IntKind.i64.wrap (v106 + 1)
      bif decide (0 ≤ s.2.1) && decide (s.2.1 < (v108.length : Int)) then
       let v110 := v108.getD (s.2.1).toNat dz30
       let v111 := v108.set (s.2.1).toNat ((v110.1, (((v110.2.1.1.1.1, (v110.2.1.1.1.2.1, v109, v110.2.1.1.1.2.2.2)), v110.2.1.1.2), v110.2.1.2), v110.2.2))
       let v112 := IntKind.i64.wrap (v109 + 1)
       bif decide (0 ≤ s.2.1) && decide (s.2.1 < (v111.length : Int)) then
        let v113 := v111.getD (s.2.1).toNat dz30
        let v114 := v111.set (s.2.1).toNat ((v113.1, (((v113.2.1.1.1.1, v113.2.1.1.1.2.1, (v113.2.1.1.1.2.2.1, v112, v113.2.1.1.1.2.2.2.2)), v113.2.1.1.2), v113.2.1.2), v113.2.2))
        let v115 := IntKind.i64.wrap (v112 + 1)
        bif decide (0 ≤ s.2.1) && decide (s.2.1 < (v114.length : Int)) then
         let v116 := v114.getD (s.2.1).toNat dz30
         let v117 := v114.set (s.2.1).toNat ((v116.1, (((v116.2.1.1.1.1, (v116.2.1.1.1.2.1, v116.2.1.1.1.2.2.1, (v116.2.1.1.1.2.2.2.1, v115, v116.2.1.1.1.2.2.2.2.2))), v116.2.1.1.2), v116.2.1.2), v116.2.2))
         let v118 := IntKind.i64.wrap (v115 + 1)
         bif !decide (3 = 0) then
          let v119 := (v118).tmod 3
          bif decide (0 ≤ s.2.1) && decide (s.2.1 < (v117.length : Int)) then
           let v120 := v117.getD (s.2.1).toNat dz30
           let v121 := v117.set (s.2.1).toNat ((v120.1, (((v120.2.1.1.1.1, (v120.2.1.1.1.2.1, v120.2.1.1.1.2.2.1, (v120.2.1.1.1.2.2.2.1, v120.2.1.1.1.2.2.2.2.1, ((v119 == 0))))), v120.2.1.1.2), v120.2.1.2), v120.2.2))
           let v122 := IntKind.i64.wrap (v118 + 1)
           bif decide (0 ≤ s.2.1) && decide (s.2.1 < (v121.length : Int)) then
            let v123 := v121.getD (s.2.1).toNat dz30
            let v124 := v121.set (s.2.1).toNat ((v123.1, ((v123.2.1.1.1, (v122, v123.2.1.1.2.1.2), v123.2.1.1.2.2), v123.2.1.2), v123.2.2))
            let v125 := IntKind.i64.wrap (v122 + 1)
            bif decide (0 ≤ s.2.1) && decide (s.2.1 < (v124.length : Int)) then
             let v126 := v124.getD (s.2.1).toNat dz30
             let v127 := v124.set (s.2.1).toNat ((v126.1, ((v126.2.1.1.1, (v126.2.1.1.2.1.1, v125), v126.2.1.1.2.2), v126.2.1.2), v126.2.2))
             let v128 := IntKind.i64.wrap (v125 + 1)
             bif decide (0 ≤ s.2.1) && decide (s.2.1 < (v127.length : Int)) then
              let v129 := v127.getD (s.2.1).toNat dz30
              let v130 := v127.set (s.2.1).toNat ((v129.1, ((v129.2.1.1.1, (v129.2.1.1.2.1, (v128, v129.2.1.1.2.2.1.2), v129.2.1.1.2.2.2)), v129.2.1.2), v129.2.2))
              let v131 := IntKind.i64.wrap (v128 + 1)
              bif decide (0 ≤ s.2.1) && decide (s.2.1 < (v130.length : Int)) then
               let v132 := v130.getD (s.2.1).toNat dz30
               let v133 := v130.set (s.2.1).toNat ((v132.1, ((v132.2.1.1.1, (v132.2.1.1.2.1, (v132.2.1.1.2.2.1.1, v131, v132.2.1.1.2.2.1.2.2), v132.2.1.1.2.2.2)), v132.2.1.2), v132.2.2))
               let v134 := IntKind.i64.wrap (v131 + 1)
               bif !decide (3 = 0) then
                let v135 := (v134).tmod 3
                bif decide (0 ≤ s.2.1) && decide (s.2.1 < (v133.length : Int)) then
                 let v136 := v133.getD (s.2.1).toNat dz30
                 let v137 := v133.set (s.2.1).toNat ((v136.1, ((v136.2.1.1.1, (v136.2.1.1.2.1, (v136.2.1.1.2.2.1.1, v136.2.1.1.2.2.1.2.1, ((v135 == 0))), v136.2.1.1.2.2.2)), v136.2.1.2), v136.2.2))
                 let v138 := IntKind.i64.wrap (v134 + 1)
                 match F_laws_markText (v138) with
                 | none => none
                 | some y139 =>
                  bif decide (0 ≤ s.2.1) && decide (s.2.1 < (v137.length : Int)) then
                   let v140 := v137.getD (s.2.1).toNat dz30
                   let v141 := v137.set (s.2.1).toNat ((v140.1, ((v140.2.1.1.1, v140.2.1.1.2.1, (v140.2.1.1.2.2.1, y139, v140.2.1.1.2.2.2.2)), v140.2.1.2), v140.2.2))
                   let v142 := IntKind.i64.wrap (v138 + 1)
                   bif decide (0 ≤ s.2.1) && decide (s.2.1 < (v141.length : Int)) then
                    let v143 := v141.getD (s.2.1).toNat dz30
                    let v144 := v141.set (s.2.1).toNat ((v143.1, ((v143.2.1.1.1, v143.2.1.1.2.1, (v143.2.1.1.2.2.1, v143.2.1.1.2.2.2.1, v142)), v143.2.1.2), v143.2.2))
                    let v145 := IntKind.i64.wrap (v142 + 1)
                    bif !decide (3 = 0) then
                     let v146 := (v145).tmod 3
                     bif decide (0 ≤ s.2.1) && decide (s.2.1 < (v144.length : Int)) then
                      let v147 := v144.getD (s.2.1).toNat dz30
                      let v148 := v144.set (s.2.1).toNat ((v147.1, (v147.2.1.1, ((v146 == 0)), v147.2.1.2.2), v147.2.2))
                      let v149 := IntKind.i64.wrap (v145 + 1)
                      bif decide (0 ≤ s.2.1) && decide (s.2.1 < (v148.length : Int)) then
                       let v150 := v148.getD (s.2.1).toNat dz30
                       let v151 := v148.set (s.2.1).toNat ((v150.1, (v150.2.1.1, (v150.2.1.2.1, (v149, v150.2.1.2.2.1.2), v150.2.1.2.2.2)), v150.2.2))
                       let v152 := IntKind.i64.wrap (v149 + 1)
                       bif decide (0 ≤ s.2.1) && decide (s.2.1 < (v151.length : Int)) then
                        let v153 := v151.getD (s.2.1).toNat dz30
                        let v154 := v151.set (s.2.1).toNat ((v153.1, (v153.2.1.1, (v153.2.1.2.1, (v153.2.1.2.2.1.1, v152, v153.2.1.2.2.1.2.2), v153.2.1.2.2.2)), v153.2.2))
                        let v155 := IntKind.i64.wrap (v152 + 1)
                        bif decide (0 ≤ s.2.1) && decide (s.2.1 < (v154.length : Int)) then
                         let v156 := v154.getD (s.2.1).toNat dz30
                         let v157 := v154.set (s.2.1).toNat ((v156.1, (v156.2.1.1, (v156.2.1.2.1, (v156.2.1.2.2.1.1, (v156.2.1.2.2.1.2.1, v155, v156.2.1.2.2.1.2.2.2)), v156.2.1.2.2.2)), v156.2.2))
                         let v158 := IntKind.i64.wrap (v155 + 1)
                         bif decide (0 ≤ s.2.1) && decide (s.2.1 < (v157.length : Int)) then
                          let v159 := v157.getD (s.2.1).toNat dz30
                          let v160 := v157.set (s.2.1).toNat ((v159.1, (v159.2.1.1, (v159.2.1.2.1, (v159.2.1.2.2.1.1, v159.2.1.2.2.1.2.1, (v159.2.1.2.2.1.2.2.1, v158, v159.2.1.2.2.1.2.2.2.2)), v159.2.1.2.2.2)), v159.2.2))
                          let v161 := IntKind.i64.wrap (v158 + 1)
                          bif decide (0 ≤ s.2.1) && decide (s.2.1 < (v160.length : Int)) then
                           let v162 := v160.getD (s.2.1).toNat dz30
                           let v163 := v160.set (s.2.1).toNat ((v162.1, (v162.2.1.1, (v162.2.1.2.1, (v162.2.1.2.2.1.1, (v162.2.1.2.2.1.2.1, v162.2.1.2.2.1.2.2.1, (v162.2.1.2.2.1.2.2.2.1, v161, v162.2.1.2.2.1.2.2.2.2.2))), v162.2.1.2.2.2)), v162.2.2))
                           let v164 := IntKind.i64.wrap (v161 + 1)
                           bif !decide (3 = 0) then
                            let v165 := (v164).tmod 3
                            bif decide (0 ≤ s.2.1) && decide (s.2.1 < (v163.length : Int)) then
                             let v166 := v163.getD (s.2.1).toNat dz30
                             let v167 := v163.set (s.2.1).toNat ((v166.1, (v166.2.1.1, (v166.2.1.2.1, (v166.2.1.2.2.1.1, (v166.2.1.2.2.1.2.1, v166.2.1.2.2.1.2.2.1, (v166.2.1.2.2.1.2.2.2.1, v166.2.1.2.2.1.2.2.2.2.1, ((v165 == 0))))), v166.2.1.2.2.2)), v166.2.2))
                             let v168 := IntKind.i64.wrap (v164 + 1)
                             bif decide (0 ≤ s.2.1) && decide (s.2.1 < (v167.length : Int)) then
                              let v169 := v167.getD (s.2.1).toNat dz30
                              let v170 := v167.set (s.2.1).toNat ((v169.1, (v169.2.1.1, v169.2.1.2.1, (v169.2.1.2.2.1, (v168, v169.2.1.2.2.2.1.2), v169.2.1.2.2.2.2)), v169.2.2))
                              let v171 := IntKind.i64.wrap (v168 + 1)
                              bif decide (0 ≤ s.2.1) && decide (s.2.1 < (v170.length : Int)) then
                               let v172 := v170.getD (s.2.1).toNat dz30
                               let v173 := v170.set (s.2.1).toNat ((v172.1, (v172.2.1.1, v172.2.1.2.1, (v172.2.1.2.2.1, (v172.2.1.2.2.2.1.1, v171), v172.2.1.2.2.2.2)), v172.2.2))
                               let v174 := IntKind.i64.wrap (v171 + 1)
                               bif decide (0 ≤ s.2.1) && decide (s.2.1 < (v173.length : Int)) then
                                let v175 := v173.getD (s.2.1).toNat dz30
                                let v176 := v173.set (s.2.1).toNat ((v175.1, (v175.2.1.1, (v175.2.1.2.1, v175.2.1.2.2.1, (v175.2.1.2.2.2.1, (v174, v175.2.1.2.2.2.2.1.2), v175.2.1.2.2.2.2.2))), v175.2.2))
                                let v177 := IntKind.i64.wrap (v174 + 1)
                                bif decide (0 ≤ s.2.1) && decide (s.2.1 < (v176.length : Int)) then
                                 let v178 := v176.getD (s.2.1).toNat dz30
                                 let v179 := v176.set (s.2.1).toNat ((v178.1, (v178.2.1.1, (v178.2.1.2.1, v178.2.1.2.2.1, (v178.2.1.2.2.2.1, (v178.2.1.2.2.2.2.1.1, v177, v178.2.1.2.2.2.2.1.2.2), v178.2.1.2.2.2.2.2))), v178.2.2))
                                 let v180 := IntKind.i64.wrap (v177 + 1)
                                 bif !decide (3 = 0) then
                                  let v181 := (v180).tmod 3
                                  bif decide (0 ≤ s.2.1) && decide (s.2.1 < (v179.length : Int)) then
                                   let v182 := v179.getD (s.2.1).toNat dz30
                                   let v183 := v179.set (s.2.1).toNat ((v182.1, (v182.2.1.1, (v182.2.1.2.1, v182.2.1.2.2.1, (v182.2.1.2.2.2.1, (v182.2.1.2.2.2.2.1.1, v182.2.1.2.2.2.2.1.2.1, ((v181 == 0))), v182.2.1.2.2.2.2.2))), v182.2.2))
                                   let v184 := IntKind.i64.wrap (v180 + 1)
                                   match F_laws_markText (v184) with
                                   | none => none
                                   | some y185 =>
                                    bif decide (0 ≤ s.2.1) && decide (s.2.1 < (v183.length : Int)) then
                                     let v186 := v183.getD (s.2.1).toNat dz30
                                     let v187 := v183.set (s.2.1).toNat ((v186.1, (v186.2.1.1, v186.2.1.2.1, (v186.2.1.2.2.1, v186.2.1.2.2.2.1, (v186.2.1.2.2.2.2.1, y185, v186.2.1.2.2.2.2.2.2))), v186.2.2))
                                     let v188 := IntKind.i64.wrap (v184 + 1)
                                     bif decide (0 ≤ s.2.1) && decide (s.2.1 < (v187.length : Int)) then
                                      let v189 := v187.getD (s.2.1).toNat dz30
                                      let v190 := v187.set (s.2.1).toNat ((v189.1, (v189.2.1.1, v189.2.1.2.1, (v189.2.1.2.2.1, v189.2.1.2.2.2.1, (v189.2.1.2.2.2.2.1, v189.2.1.2.2.2.2.2.1, v188))), v189.2.2))
                                      let v191 := IntKind.i64.wrap (v188 + 1)
                                      bif decide (0 ≤ s.2.1) && decide (s.2.1 < (v190.length : Int)) then
                                       let v192 := v190.getD (s.2.1).toNat dz30
                                       let v193 := v190.set (s.2.1).toNat ((v192.1, (v192.2.1, v191, v192.2.2.2)))
                                       let v194 := IntKind.i64.wrap (v191 + 1)
                                       bif decide (0 ≤ s.2.1) && decide (s.2.1 < (v193.length : Int)) then
                                        let v195 := v193.getD (s.2.1).toNat dz30
                                        let v196 := v193.set (s.2.1).toNat ((v195.1, (v195.2.1, v195.2.2.1, v194)))
                                        let v197 := IntKind.i64.wrap (v194 + 1)
                                        let v198 := IntKind.i64.wrap (s.2.1 + 1)
                                        some (.inl ((v197, v198, v196)))
                                       else none
                                      else none
                                     else none
                                    else none
                                  else none
                                 else none
                                else none
                               else none
                              else none
                             else none
                            else none
                           else none
                          else none
                         else none
                        else none
                       else none
                      else none
                     else none
                    else none
                   else none
                  else none
                else none
               else none
              else none
             else none
            else none
           else none
          else none
         else none
        else none
       else none
      else none
     else none
    else none
   else none
 else
  some (.inr ((s.1, s.2.2)))
def pat_laws_markEntryS_0 : Pat := { tmps := .own 63 :: .v (.int .i64) :: .any :: .any :: .any :: .v (.int .i64) :: an 309 [], blks := [(63, .row true (.st (.pair .str (.pair (.st (.pair (.st (.pair (.st (.pair (.int .i64) (.pair (.int .i64) (.pair (.int .i64) (.pair (.int .i64) (.pair (.int .i64) .bool)))))) (.pair (.st (.pair (.int .i64) (.int .i64))) (.pair (.st (.pair (.int .i64) (.pair (.int .i64) .bool))) (.st (.pair .str (.int .i64))))))) (.pair .bool (.st (.pair (.st (.pair (.int .i64) (.pair (.int .i64) (.pair (.int .i64) (.pair (.int .i64) (.pair (.int .i64) .bool)))))) (.pair (.st (.pair (.int .i64) (.int .i64))) (.pair (.st (.pair (.int .i64) (.pair (.int .i64) .bool))) (.st (.pair .str (.int .i64)))))))))) (.pair (.int .i64) (.int .i64))))))] }
def outs_laws_markEntryS_0 : List (Exit × Pat) := [(.exit 0, { tmps := .any :: .v (.int .i64) :: an 313 [], blks := [(63, .row true (.st (.pair .str (.pair (.st (.pair (.st (.pair (.st (.pair (.int .i64) (.pair (.int .i64) (.pair (.int .i64) (.pair (.int .i64) (.pair (.int .i64) .bool)))))) (.pair (.st (.pair (.int .i64) (.int .i64))) (.pair (.st (.pair (.int .i64) (.pair (.int .i64) .bool))) (.st (.pair .str (.int .i64))))))) (.pair .bool (.st (.pair (.st (.pair (.int .i64) (.pair (.int .i64) (.pair (.int .i64) (.pair (.int .i64) (.pair (.int .i64) .bool)))))) (.pair (.st (.pair (.int .i64) (.int .i64))) (.pair (.st (.pair (.int .i64) (.pair (.int .i64) .bool))) (.st (.pair .str (.int .i64)))))))))) (.pair (.int .i64) (.int .i64))))))] })]
noncomputable def F_laws_markEntryS (x : (List (ByteArray × ((((Int × (Int × (Int × (Int × (Int × Bool))))) × ((Int × Int) × ((Int × (Int × Bool)) × (ByteArray × Int)))) × (Bool × ((Int × (Int × (Int × (Int × (Int × Bool))))) × ((Int × Int) × ((Int × (Int × Bool)) × (ByteArray × Int)))))) × (Int × Int)))) × Int) : Option ((List (ByteArray × ((((Int × (Int × (Int × (Int × (Int × Bool))))) × ((Int × Int) × ((Int × (Int × Bool)) × (ByteArray × Int)))) × (Bool × ((Int × (Int × (Int × (Int × (Int × Bool))))) × ((Int × Int) × ((Int × (Int × Bool)) × (ByteArray × Int)))))) × (Int × Int)))) × Int) :=
 match runL step_laws_markEntryS_0 ((x.2, 0, x.1)) with
 | none => none
 | some o199 =>
  some ((o199.2, o199.1))
noncomputable def c_laws_markEntryS : Con := { ps := [(.io true, (.slice (.st (.pair .str (.pair (.st (.pair (.st (.pair (.st (.pair (.int .i64) (.pair (.int .i64) (.pair (.int .i64) (.pair (.int .i64) (.pair (.int .i64) .bool)))))) (.pair (.st (.pair (.int .i64) (.int .i64))) (.pair (.st (.pair (.int .i64) (.pair (.int .i64) .bool))) (.st (.pair .str (.int .i64))))))) (.pair .bool (.st (.pair (.st (.pair (.int .i64) (.pair (.int .i64) (.pair (.int .i64) (.pair (.int .i64) (.pair (.int .i64) .bool)))))) (.pair (.st (.pair (.int .i64) (.int .i64))) (.pair (.st (.pair (.int .i64) (.pair (.int .i64) .bool))) (.st (.pair .str (.int .i64)))))))))) (.pair (.int .i64) (.int .i64))))))), (.val, (.int .i64))], rs := [(.val, (.int .i64))], F := F_laws_markEntryS }
noncomputable def env_laws_markEntryS : Env := { par := [63], dp := false, settle := [], con := fun f => match f with | 66 => some c_laws_markText | _ => none, clo := fun _ => none, T := tinf Tryz.prog }
noncomputable def loops_laws_markEntryS : Nat → Option Loop := fun n => match n with | 2 => some { pat := pat_laws_markEntryS_0, outs := outs_laws_markEntryS_0, run := runL (step_laws_markEntryS_0) } | _ => none
theorem step_laws_markEntryS_0_eq (s : Int × Int × (List (ByteArray × ((((Int × (Int × (Int × (Int × (Int × Bool))))) × ((Int × Int) × ((Int × (Int × Bool)) × (ByteArray × Int)))) × (Bool × ((Int × (Int × (Int × (Int × (Int × Bool))))) × ((Int × Int) × ((Int × (Int × Bool)) × (ByteArray × Int)))))) × (Int × Int))))) : stepEv env_laws_markEntryS loops_laws_markEntryS pat_laws_markEntryS_0 outs_laws_markEntryS_0 Tryz.f31 2 s = step_laws_markEntryS_0 s := by kernel_rfl
theorem F_laws_markEntryS_eq (x : (List (ByteArray × ((((Int × (Int × (Int × (Int × (Int × Bool))))) × ((Int × Int) × ((Int × (Int × Bool)) × (ByteArray × Int)))) × (Bool × ((Int × (Int × (Int × (Int × (Int × Bool))))) × ((Int × Int) × ((Int × (Int × Bool)) × (ByteArray × Int)))))) × (Int × Int)))) × Int) : Fev env_laws_markEntryS loops_laws_markEntryS c_laws_markEntryS.ps c_laws_markEntryS.rs Tryz.f31 x = F_laws_markEntryS x := by kernel_rfl
theorem env_laws_markEntryS_ok : EnvOK Tryz.prog env_laws_markEntryS := envOK_of (fun f c h => by
  simp only [env_laws_markEntryS] at h
  split at h
  · cases h; exact con_laws_markText
  · cases h) (fun f c h => by cases h) rfl
theorem con_laws_markEntryS : ConOK Tryz.prog 31 c_laws_markEntryS := con_of_ev' (body := Tryz.f31.body.getD .skip) (Λ := loops_laws_markEntryS) mixed Tryz.func31 (by kernel_rfl) (by kernel_rfl) env_laws_markEntryS_ok (by kernel_rfl) (by kernel_rfl) (fun n L h => by
  unfold loops_laws_markEntryS at h
  split at h
  · cases h; exact fun s o ho => loop_ok (stepF := stepEv env_laws_markEntryS loops_laws_markEntryS pat_laws_markEntryS_0 outs_laws_markEntryS_0 Tryz.f31 2) (step_laws_markEntryS_0_eq) ho
  · cases h) F_laws_markEntryS_eq

noncomputable def step_laws_heldEntryS_0 (s : (List (ByteArray × ((((Int × (Int × (Int × (Int × (Int × Bool))))) × ((Int × Int) × ((Int × (Int × Bool)) × (ByteArray × Int)))) × (Bool × ((Int × (Int × (Int × (Int × (Int × Bool))))) × ((Int × Int) × ((Int × (Int × Bool)) × (ByteArray × Int)))))) × (Int × Int)))) × Int × Int) : Option (((List (ByteArray × ((((Int × (Int × (Int × (Int × (Int × Bool))))) × ((Int × Int) × ((Int × (Int × Bool)) × (ByteArray × Int)))) × (Bool × ((Int × (Int × (Int × (Int × (Int × Bool))))) × ((Int × Int) × ((Int × (Int × Bool)) × (ByteArray × Int)))))) × (Int × Int)))) × Int × Int) ⊕ ((Int) ⊕ (Int))) :=
 bif (decide (s.2.2 < (s.1.length : Int))) then
  bif decide (0 ≤ s.2.2) && decide (s.2.2 < (s.1.length : Int)) then
   match F_laws_markText (s.2.1) with
   | none => none
   | some y40 =>
    bif (!((s.1.getD (s.2.2).toNat dz30).1.toList == y40.toList)) then
     some (.inr (.inl ((-1))))
    else
     let v41 := IntKind.i64.wrap (s.2.1 + 1)
     bif decide (0 ≤ s.2.2) && decide (s.2.2 < (s.1.length : Int)) then
      bif (((s.1.getD (s.2.2).toNat dz30).2.1.1.1.1 != v41)) then
       some (.inr (.inl ((-1))))
      else
       let v42 := IntKind.i64.wrap (v41 + 1)
       bif decide (0 ≤ s.2.2) && decide (s.2.2 < (s.1.length : Int)) then
        bif (((s.1.getD (s.2.2).toNat dz30).2.1.1.1.2.1 != v42)) then
         some (.inr (.inl ((-1))))
        else
         let v43 := IntKind.i64.wrap (v42 + 1)
         bif decide (0 ≤ s.2.2) && decide (s.2.2 < (s.1.length : Int)) then
          bif (((s.1.getD (s.2.2).toNat dz30).2.1.1.1.2.2.1 != v43)) then
           some (.inr (.inl ((-1))))
          else
           let v44 := IntKind.i64.wrap (v43 + 1)
           bif decide (0 ≤ s.2.2) && decide (s.2.2 < (s.1.length : Int)) then
            bif (((s.1.getD (s.2.2).toNat dz30).2.1.1.1.2.2.2.1 != v44)) then
             some (.inr (.inl ((-1))))
            else
             let v45 := IntKind.i64.wrap (v44 + 1)
             bif decide (0 ≤ s.2.2) && decide (s.2.2 < (s.1.length : Int)) then
              bif (((s.1.getD (s.2.2).toNat dz30).2.1.1.1.2.2.2.2.1 != v45)) then
               some (.inr (.inl ((-1))))
              else
               let v46 := IntKind.i64.wrap (v45 + 1)
               bif decide (0 ≤ s.2.2) && decide (s.2.2 < (s.1.length : Int)) then
                bif !decide (3 = 0) then
                 let v47 := (v46).tmod 3
                 bif (!((s.1.getD (s.2.2).toNat dz30).2.1.1.1.2.2.2.2.2 == ((v47 == 0)))) then
                  some (.inr (.inl ((-1))))
                 else
                  let v48 := IntKind.i64.wrap (v46 + 1)
                  bif decide (0 ≤ s.2.2) && decide (s.2.2 < (s.1.length : Int)) then
                   bif (((s.1.getD (s.2.2).toNat dz30).2.1.1.2.1.1 != v48)) then
                    some (.inr (.inl ((-1))))
                   else
                    let v49 := IntKind.i64.wrap (v48 + 1)
                    bif decide (0 ≤ s.2.2) && decide (s.2.2 < (s.1.length : Int)) then
                     bif (((s.1.getD (s.2.2).toNat dz30).2.1.1.2.1.2 != v49)) then
                      some (.inr (.inl ((-1))))
                     else
                      let v50 := IntKind.i64.wrap (v49 + 1)
                      bif decide (0 ≤ s.2.2) && decide (s.2.2 < (s.1.length : Int)) then
                       bif (((s.1.getD (s.2.2).toNat dz30).2.1.1.2.2.1.1 != v50)) then
                        some (.inr (.inl ((-1))))
                       else
                        let v51 := IntKind.i64.wrap (v50 + 1)
                        bif decide (0 ≤ s.2.2) && decide (s.2.2 < (s.1.length : Int)) then
                         bif (((s.1.getD (s.2.2).toNat dz30).2.1.1.2.2.1.2.1 != v51)) then
                          some (.inr (.inl ((-1))))
                         else
                          let v52 := IntKind.i64.wrap (v51 + 1)
                          bif decide (0 ≤ s.2.2) && decide (s.2.2 < (s.1.length : Int)) then
                           bif !decide (3 = 0) then
                            let v53 := (v52).tmod 3
                            bif (!((s.1.getD (s.2.2).toNat dz30).2.1.1.2.2.1.2.2 == ((v53 == 0)))) then
                             some (.inr (.inl ((-1))))
                            else
                             let v54 := IntKind.i64.wrap (v52 + 1)
                             bif decide (0 ≤ s.2.2) && decide (s.2.2 < (s.1.length : Int)) then
                              match F_laws_markText (v54) with
                              | none => none
                              | some y55 =>
                               bif (!((s.1.getD (s.2.2).toNat dz30).2.1.1.2.2.2.1.toList == y55.toList)) then
                                some (.inr (.inl ((-1))))
                               else
                                let v56 := IntKind.i64.wrap (v54 + 1)
                                bif decide (0 ≤ s.2.2) && decide (s.2.2 < (s.1.length : Int)) then
                                 bif (((s.1.getD (s.2.2).toNat dz30).2.1.1.2.2.2.2 != v56)) then
                                  some (.inr (.inl ((-1))))
                                 else
                                  let v57 := IntKind.i64.wrap (v56 + 1)
                                  bif decide (0 ≤ s.2.2) && decide (s.2.2 < (s.1.length : Int)) then
                                   bif !decide (3 = 0) then
                                    let v58 := (v57).tmod 3
                                    bif (!((s.1.getD (s.2.2).toNat dz30).2.1.2.1 == ((v58 == 0)))) then
                                     some (.inr (.inl ((-1))))
                                    else
                                     let v59 := IntKind.i64.wrap (v57 + 1)
                                     bif decide (0 ≤ s.2.2) && decide (s.2.2 < (s.1.length : Int)) then
                                      bif (((s.1.getD (s.2.2).toNat dz30).2.1.2.2.1.1 != v59)) then
                                       some (.inr (.inl ((-1))))
                                      else
                                       let v60 := IntKind.i64.wrap (v59 + 1)
                                       bif decide (0 ≤ s.2.2) && decide (s.2.2 < (s.1.length : Int)) then
                                        bif (((s.1.getD (s.2.2).toNat dz30).2.1.2.2.1.2.1 != v60)) then
                                         some (.inr (.inl ((-1))))
                                        else
                                         let v61 := IntKind.i64.wrap (v60 + 1)
                                         bif decide (0 ≤ s.2.2) && decide (s.2.2 < (s.1.length : Int)) then
                                          bif (((s.1.getD (s.2.2).toNat dz30).2.1.2.2.1.2.2.1 != v61)) then
                                           some (.inr (.inl ((-1))))
                                          else
                                           let v62 := IntKind.i64.wrap (v61 + 1)
                                           bif decide (0 ≤ s.2.2) && decide (s.2.2 < (s.1.length : Int)) then
                                            bif (((s.1.getD (s.2.2).toNat dz30).2.1.2.2.1.2.2.2.1 != v62)) then
                                             some (.inr (.inl ((-1))))
                                            else
                                             let v63 := IntKind.i64.wrap (v62 + 1)
                                             bif decide (0 ≤ s.2.2) && decide (s.2.2 < (s.1.length : Int)) then
                                              bif (((s.1.getD (s.2.2).toNat dz30).2.1.2.2.1.2.2.2.2.1 != v63)) then
                                               some (.inr (.inl ((-1))))
                                              else
                                               let v64 := IntKind.i64.wrap (v63 + 1)
                                               bif decide (0 ≤ s.2.2) && decide (s.2.2 < (s.1.length : Int)) then
                                                bif !decide (3 = 0) then
                                                 let v65 := (v64).tmod 3
                                                 bif (!((s.1.getD (s.2.2).toNat dz30).2.1.2.2.1.2.2.2.2.2 == ((v65 == 0)))) then
                                                  some (.inr (.inl ((-1))))
                                                 else
                                                  let v66 := IntKind.i64.wrap (v64 + 1)
                                                  bif decide (0 ≤ s.2.2) && decide (s.2.2 < (s.1.length : Int)) then
                                                   bif (((s.1.getD (s.2.2).toNat dz30).2.1.2.2.2.1.1 != v66)) then
                                                    some (.inr (.inl ((-1))))
                                                   else
                                                    let v67 := IntKind.i64.wrap (v66 + 1)
                                                    bif decide (0 ≤ s.2.2) && decide (s.2.2 < (s.1.length : Int)) then
                                                     bif (((s.1.getD (s.2.2).toNat dz30).2.1.2.2.2.1.2 != v67)) then
                                                      some (.inr (.inl ((-1))))
                                                     else
                                                      let v68 := IntKind.i64.wrap (v67 + 1)
                                                      bif decide (0 ≤ s.2.2) && decide (s.2.2 < (s.1.length : Int)) then
                                                       bif (((s.1.getD (s.2.2).toNat dz30).2.1.2.2.2.2.1.1 != v68)) then
                                                        some (.inr (.inl ((-1))))
                                                       else
                                                        let v69 := IntKind.i64.wrap (v68 + 1)
                                                        bif decide (0 ≤ s.2.2) && decide (s.2.2 < (s.1.length : Int)) then
                                                         bif (((s.1.getD (s.2.2).toNat dz30).2.1.2.2.2.2.1.2.1 != v69)) then
                                                          some (.inr (.inl ((-1))))
                                                         else
                                                          let v70 := IntKind.i64.wrap (v69 + 1)
                                                          bif decide (0 ≤ s.2.2) && decide (s.2.2 < (s.1.length : Int)) then
                                                           bif !decide (3 = 0) then
                                                            let v71 := (v70).tmod 3
                                                            bif (!((s.1.getD (s.2.2).toNat dz30).2.1.2.2.2.2.1.2.2 == ((v71 == 0)))) then
                                                             some (.inr (.inl ((-1))))
                                                            else
                                                             let v72 := IntKind.i64.wrap (v70 + 1)
                                                             bif decide (0 ≤ s.2.2) && decide (s.2.2 < (s.1.length : Int)) then
                                                              match F_laws_markText (v72) with
                                                              | none => none
                                                              | some y73 =>
                                                               bif (!((s.1.getD (s.2.2).toNat dz30).2.1.2.2.2.2.2.1.toList == y73.toList)) then
                                                                some (.inr (.inl ((-1))))
                                                               else
                                                                let v74 := IntKind.i64.wrap (v72 + 1)
                                                                bif decide (0 ≤ s.2.2) && decide (s.2.2 < (s.1.length : Int)) then
                                                                 bif (((s.1.getD (s.2.2).toNat dz30).2.1.2.2.2.2.2.2 != v74)) then
                                                                  some (.inr (.inl ((-1))))
                                                                 else
                                                                  let v75 := IntKind.i64.wrap (v74 + 1)
                                                                  bif decide (0 ≤ s.2.2) && decide (s.2.2 < (s.1.length : Int)) then
                                                                   bif (((s.1.getD (s.2.2).toNat dz30).2.2.1 != v75)) then
                                                                    some (.inr (.inl ((-1))))
                                                                   else
                                                                    let v76 := IntKind.i64.wrap (v75 + 1)
                                                                    bif decide (0 ≤ s.2.2) && decide (s.2.2 < (s.1.length : Int)) then
                                                                     bif (((s.1.getD (s.2.2).toNat dz30).2.2.2 != v76)) then
                                                                      some (.inr (.inl ((-1))))
                                                                     else
                                                                      let v77 := IntKind.i64.wrap (v76 + 1)
                                                                      let v78 := IntKind.i64.wrap (s.2.2 + 1)
                                                                      some (.inl ((s.1, v77, v78)))
                                                                    else none
                                                                  else none
                                                                else none
                                                             else none
                                                           else none
                                                          else none
                                                        else none
                                                      else none
                                                    else none
                                                  else none
                                                else none
                                               else none
                                             else none
                                           else none
                                         else none
                                       else none
                                     else none
                                   else none
                                  else none
                                else none
                             else none
                           else none
                          else none
                        else none
                      else none
                    else none
                  else none
                else none
               else none
             else none
           else none
         else none
       else none
     else none
  else none
 else
  some (.inr (.inr (s.2.1)))
def pat_laws_heldEntryS_0 : Pat := { tmps := .v (.slice (.st (.pair .str (.pair (.st (.pair (.st (.pair (.st (.pair (.int .i64) (.pair (.int .i64) (.pair (.int .i64) (.pair (.int .i64) (.pair (.int .i64) .bool)))))) (.pair (.st (.pair (.int .i64) (.int .i64))) (.pair (.st (.pair (.int .i64) (.pair (.int .i64) .bool))) (.st (.pair .str (.int .i64))))))) (.pair .bool (.st (.pair (.st (.pair (.int .i64) (.pair (.int .i64) (.pair (.int .i64) (.pair (.int .i64) (.pair (.int .i64) .bool)))))) (.pair (.st (.pair (.int .i64) (.int .i64))) (.pair (.st (.pair (.int .i64) (.pair (.int .i64) .bool))) (.st (.pair .str (.int .i64)))))))))) (.pair (.int .i64) (.int .i64)))))) :: .v (.int .i64) :: .any :: .any :: .any :: .v (.int .i64) :: an 369 [], blks := [] }
def outs_laws_heldEntryS_0 : List (Exit × Pat) := [(.ret, { tmps := an 4 (.v (.int .i64) :: an 370 []), blks := [] }), (.exit 0, { tmps := .any :: .v (.int .i64) :: an 373 [], blks := [] })]
noncomputable def F_laws_heldEntryS (x : (List (ByteArray × ((((Int × (Int × (Int × (Int × (Int × Bool))))) × ((Int × Int) × ((Int × (Int × Bool)) × (ByteArray × Int)))) × (Bool × ((Int × (Int × (Int × (Int × (Int × Bool))))) × ((Int × Int) × ((Int × (Int × Bool)) × (ByteArray × Int)))))) × (Int × Int)))) × Int) : Option (Int) :=
 match runL step_laws_heldEntryS_0 ((x.1, x.2, 0)) with
 | none => none
 | some (.inl o79) =>
  some (o79)
 | some (.inr o79) =>
  some (o79)
noncomputable def c_laws_heldEntryS : Con := { ps := [(.val, (.slice (.st (.pair .str (.pair (.st (.pair (.st (.pair (.st (.pair (.int .i64) (.pair (.int .i64) (.pair (.int .i64) (.pair (.int .i64) (.pair (.int .i64) .bool)))))) (.pair (.st (.pair (.int .i64) (.int .i64))) (.pair (.st (.pair (.int .i64) (.pair (.int .i64) .bool))) (.st (.pair .str (.int .i64))))))) (.pair .bool (.st (.pair (.st (.pair (.int .i64) (.pair (.int .i64) (.pair (.int .i64) (.pair (.int .i64) (.pair (.int .i64) .bool)))))) (.pair (.st (.pair (.int .i64) (.int .i64))) (.pair (.st (.pair (.int .i64) (.pair (.int .i64) .bool))) (.st (.pair .str (.int .i64)))))))))) (.pair (.int .i64) (.int .i64))))))), (.val, (.int .i64))], rs := [(.val, (.int .i64))], F := F_laws_heldEntryS }
noncomputable def env_laws_heldEntryS : Env := { par := [], dp := false, settle := [], con := fun f => match f with | 66 => some c_laws_markText | _ => none, clo := fun _ => none, T := tinf Tryz.prog }
noncomputable def loops_laws_heldEntryS : Nat → Option Loop := fun n => match n with | 2 => some { pat := pat_laws_heldEntryS_0, outs := outs_laws_heldEntryS_0, run := runL (step_laws_heldEntryS_0) } | _ => none
theorem step_laws_heldEntryS_0_eq (s : (List (ByteArray × ((((Int × (Int × (Int × (Int × (Int × Bool))))) × ((Int × Int) × ((Int × (Int × Bool)) × (ByteArray × Int)))) × (Bool × ((Int × (Int × (Int × (Int × (Int × Bool))))) × ((Int × Int) × ((Int × (Int × Bool)) × (ByteArray × Int)))))) × (Int × Int)))) × Int × Int) : stepEv env_laws_heldEntryS loops_laws_heldEntryS pat_laws_heldEntryS_0 outs_laws_heldEntryS_0 Tryz.f32 2 s = step_laws_heldEntryS_0 s := by kernel_rfl
theorem F_laws_heldEntryS_eq (x : (List (ByteArray × ((((Int × (Int × (Int × (Int × (Int × Bool))))) × ((Int × Int) × ((Int × (Int × Bool)) × (ByteArray × Int)))) × (Bool × ((Int × (Int × (Int × (Int × (Int × Bool))))) × ((Int × Int) × ((Int × (Int × Bool)) × (ByteArray × Int)))))) × (Int × Int)))) × Int) : Fev env_laws_heldEntryS loops_laws_heldEntryS c_laws_heldEntryS.ps c_laws_heldEntryS.rs Tryz.f32 x = F_laws_heldEntryS x := by kernel_rfl
theorem env_laws_heldEntryS_ok : EnvOK Tryz.prog env_laws_heldEntryS := envOK_of (fun f c h => by
  simp only [env_laws_heldEntryS] at h
  split at h
  · cases h; exact con_laws_markText
  · cases h) (fun f c h => by cases h) rfl
theorem con_laws_heldEntryS : ConOK Tryz.prog 32 c_laws_heldEntryS := con_of_ev' (body := Tryz.f32.body.getD .skip) (Λ := loops_laws_heldEntryS) mixed Tryz.func32 (by kernel_rfl) (by kernel_rfl) env_laws_heldEntryS_ok (by kernel_rfl) (by kernel_rfl) (fun n L h => by
  unfold loops_laws_heldEntryS at h
  split at h
  · cases h; exact fun s o ho => loop_ok (stepF := stepEv env_laws_heldEntryS loops_laws_heldEntryS pat_laws_heldEntryS_0 outs_laws_heldEntryS_0 Tryz.f32 2) (step_laws_heldEntryS_0_eq) ho
  · cases h) F_laws_heldEntryS_eq

noncomputable def F_laws_FnExactRenameGloss (x : (List (ByteArray × ((((Int × (Int × (Int × (Int × (Int × Bool))))) × ((Int × Int) × ((Int × (Int × Bool)) × (ByteArray × Int)))) × (Bool × ((Int × (Int × (Int × (Int × (Int × Bool))))) × ((Int × Int) × ((Int × (Int × Bool)) × (ByteArray × Int)))))) × (Int × Int)))) × ByteArray × ByteArray) : Option (Bool) :=
 bif (decide ((x.2.1.size : Int) > 1048576)) then
  some (true)
 else
  bif (decide ((x.2.2.size : Int) > 1048576)) then
   some (true)
  else
   match F_laws_szEntryS ((x.1, 1048576)) with
   | none => none
   | some y1 =>
    bif (decide (y1 < 0)) then
     some (true)
    else
     match F_laws_toEntryS (x.1) with
     | none => none
     | some y2 =>
      match F_spec_RenameGloss ((y2, x.2)) with
      | none => none
      | some y3 =>
       match F_laws_toEntryS (x.1) with
       | none => none
       | some y4 =>
        match F_impl_RenameGloss ((y4, x.2)) with
        | none => none
        | some y5 =>
         match F_laws_eqEntryS ((y5.1, y3.1)) with
         | none => none
         | some y6 =>
          bif (!y6) then
           some (false)
          else
           bif (!(y5.2 == y3.2)) then
            some (false)
           else
            match F_laws_toEntryS (x.1) with
            | none => none
            | some y7 =>
             match F_laws_eqEntryS ((y4, y7)) with
             | none => none
             | some y8 =>
              bif (!y8) then
               some (false)
              else
               match F_laws_markEntryS ((y4, 1)) with
               | none => none
               | some y9 =>
                bif (decide (y9.2 < 0)) then
                 some (false)
                else
                 match F_laws_eqEntryS ((y5.1, y3.1)) with
                 | none => none
                 | some y10 =>
                  bif (!y10) then
                   some (false)
                  else
                   bif (!(y5.2 == y3.2)) then
                    some (false)
                   else
                    match F_laws_markEntryS ((y5.1, 1)) with
                    | none => none
                    | some y11 =>
                     match F_laws_heldEntryS ((y11.1, 1)) with
                     | none => none
                     | some y12 =>
                      bif (decide (y12 < 0)) then
                       some (false)
                      else
                       bif ((y12 != y11.2)) then
                        some (false)
                       else
                        match F_laws_toEntryS (x.1) with
                        | none => none
                        | some y13 =>
                         match F_impl_RenameGloss ((y13, x.2)) with
                         | none => none
                         | some y14 =>
                          match F_laws_eqEntryS ((y14.1, y3.1)) with
                          | none => none
                          | some y15 =>
                           bif (!y15) then
                            some (false)
                           else
                            bif (!(y14.2 == y3.2)) then
                             some (false)
                            else
                             match F_laws_heldEntryS ((y11.1, 1)) with
                             | none => none
                             | some y16 =>
                              bif (decide (y16 < 0)) then
                               some (false)
                              else
                               bif ((y16 != y11.2)) then
                                some (false)
                               else
                                some (true)
noncomputable def c_laws_FnExactRenameGloss : Con := { ps := [(.val, (.slice (.st (.pair .str (.pair (.st (.pair (.st (.pair (.st (.pair (.int .i64) (.pair (.int .i64) (.pair (.int .i64) (.pair (.int .i64) (.pair (.int .i64) .bool)))))) (.pair (.st (.pair (.int .i64) (.int .i64))) (.pair (.st (.pair (.int .i64) (.pair (.int .i64) .bool))) (.st (.pair .str (.int .i64))))))) (.pair .bool (.st (.pair (.st (.pair (.int .i64) (.pair (.int .i64) (.pair (.int .i64) (.pair (.int .i64) (.pair (.int .i64) .bool)))))) (.pair (.st (.pair (.int .i64) (.int .i64))) (.pair (.st (.pair (.int .i64) (.pair (.int .i64) .bool))) (.st (.pair .str (.int .i64)))))))))) (.pair (.int .i64) (.int .i64))))))), (.val, .str), (.val, .str)], rs := [(.val, .bool)], F := F_laws_FnExactRenameGloss }
noncomputable def env_laws_FnExactRenameGloss : Env := { par := [], dp := false, settle := [], con := fun f => match f with | 24 => some c_laws_szEntryS | 27 => some c_laws_toEntryS | 30 => some c_laws_eqEntryS | 31 => some c_laws_markEntryS | 32 => some c_laws_heldEntryS | 33 => some c_spec_RenameGloss | 34 => some c_impl_RenameGloss | _ => none, clo := fun _ => none, T := tinf Tryz.prog }
noncomputable def loops_laws_FnExactRenameGloss : Nat → Option Loop := fun n => none
theorem F_laws_FnExactRenameGloss_eq (x : (List (ByteArray × ((((Int × (Int × (Int × (Int × (Int × Bool))))) × ((Int × Int) × ((Int × (Int × Bool)) × (ByteArray × Int)))) × (Bool × ((Int × (Int × (Int × (Int × (Int × Bool))))) × ((Int × Int) × ((Int × (Int × Bool)) × (ByteArray × Int)))))) × (Int × Int)))) × ByteArray × ByteArray) : Fev env_laws_FnExactRenameGloss loops_laws_FnExactRenameGloss c_laws_FnExactRenameGloss.ps c_laws_FnExactRenameGloss.rs Tryz.f5 x = F_laws_FnExactRenameGloss x := by kernel_rfl
theorem env_laws_FnExactRenameGloss_ok : EnvOK Tryz.prog env_laws_FnExactRenameGloss := envOK_of (fun f c h => by
  simp only [env_laws_FnExactRenameGloss] at h
  split at h
  · cases h; exact con_laws_szEntryS
  · cases h; exact con_laws_toEntryS
  · cases h; exact con_laws_eqEntryS
  · cases h; exact con_laws_markEntryS
  · cases h; exact con_laws_heldEntryS
  · cases h; exact con_spec_RenameGloss
  · cases h; exact con_impl_RenameGloss
  · cases h) (fun f c h => by cases h) rfl
theorem con_laws_FnExactRenameGloss : ConOK Tryz.prog 5 c_laws_FnExactRenameGloss := con_of_ev' (body := Tryz.f5.body.getD .skip) (Λ := loops_laws_FnExactRenameGloss) mixed Tryz.func5 (by kernel_rfl) (by kernel_rfl) env_laws_FnExactRenameGloss_ok (by kernel_rfl) (by kernel_rfl) (fun n L h => by cases h) F_laws_FnExactRenameGloss_eq

end Go.Proofs.YtbpcjfljgjekmaaGreatDoor
