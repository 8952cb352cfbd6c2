/-
The table of the code, and that the program bears this code.
-/
import Derived.Test.YtdofpjabgnfglaaGreatDoorAm32
import Derived.Test.YtdofpjabgnfglaaGreatDoorAm34
import Derived.Test.YtdofpjabgnfglaaGreatDoorCode0
import Derived.Test.YtdofpjabgnfglaaGreatDoorCode1
import Derived.Test.YtdofpjabgnfglaaGreatDoorProg
import Derived.KernelRfl
set_option maxRecDepth 100000
set_option linter.unusedVariables false
noncomputable section
namespace Go.Proofs.YtdofpjabgnfglaaGreatDoor
open Go Go.Am
def tab : PT CFun := (.node none (.node none (.node (some c5) (.node (some c21) .nil .nil .nil .nil) (.node none (.node (some c101) .nil .nil .nil .nil) .nil .nil .nil) (.node (some c53) .nil (.node (some c181) .nil .nil .nil .nil) .nil .nil) (.node (some c69) (.node (some c133) .nil .nil .nil .nil) .nil .nil .nil)) (.node (some c9) (.node (some c25) (.node (some c89) .nil .nil .nil .nil) .nil .nil .nil) (.node (some c41) .nil .nil .nil .nil) (.node (some c57) (.node (some c121) .nil .nil .nil .nil) (.node (some c185) .nil .nil .nil .nil) .nil .nil) (.node (some c73) (.node (some c137) .nil .nil .nil .nil) .nil .nil .nil)) (.node (some c13) (.node (some c29) .nil (.node (some c157) .nil .nil .nil .nil) (.node (some c221) .nil .nil .nil .nil) .nil) (.node (some c45) (.node (some c109) .nil .nil .nil .nil) (.node (some c173) .nil .nil .nil .nil) .nil .nil) (.node none (.node (some c125) .nil .nil .nil .nil) (.node (some c189) .nil .nil .nil .nil) .nil .nil) (.node (some c77) .nil .nil .nil .nil)) (.node (some c17) (.node (some c33) .nil (.node (some c161) .nil .nil .nil .nil) .nil .nil) (.node (some c49) (.node (some c113) .nil .nil .nil .nil) .nil .nil .nil) (.node (some c65) (.node (some c129) .nil .nil .nil .nil) .nil .nil .nil) (.node (some c81) (.node (some c145) .nil .nil .nil .nil) .nil .nil .nil))) (.node none (.node (some c6) (.node (some c22) (.node (some c86) .nil .nil .nil .nil) .nil .nil .nil) (.node (some c38) (.node (some c102) .nil .nil .nil .nil) .nil .nil .nil) (.node (some c54) .nil (.node (some c182) .nil .nil .nil .nil) .nil .nil) (.node (some c70) (.node (some c134) .nil .nil .nil .nil) .nil .nil .nil)) (.node (some c10) (.node (some c26) .nil .nil .nil .nil) (.node (some c42) (.node (some c106) .nil .nil .nil .nil) .nil .nil .nil) (.node (some c58) (.node (some c122) .nil .nil .nil .nil) (.node (some c186) .nil .nil .nil .nil) .nil .nil) (.node (some c74) (.node (some c138) .nil .nil .nil .nil) (.node (some c202) .nil .nil .nil .nil) .nil .nil)) (.node (some c14) (.node (some c30) .nil (.node (some c158) .nil .nil .nil .nil) (.node (some c222) .nil .nil .nil .nil) .nil) (.node (some c46) (.node (some c110) .nil .nil .nil .nil) (.node (some c174) .nil .nil .nil .nil) .nil .nil) (.node (some c62) (.node (some c126) .nil .nil .nil .nil) (.node (some c190) .nil .nil .nil .nil) .nil .nil) (.node (some c78) .nil .nil .nil .nil)) (.node (some c18) (.node (some c34) .nil (.node (some c162) .nil .nil .nil .nil) .nil .nil) (.node (some c50) (.node (some c114) .nil .nil .nil .nil) .nil .nil .nil) (.node (some c66) (.node (some c130) .nil .nil .nil .nil) .nil .nil .nil) .nil)) (.node (some c3) (.node (some c7) (.node (some c23) (.node (some c87) .nil .nil .nil .nil) .nil (.node (some c215) .nil .nil .nil .nil) .nil) (.node (some c39) (.node (some c103) .nil .nil .nil .nil) .nil (.node (some c231) .nil .nil .nil .nil) .nil) (.node (some c55) (.node (some c119) .nil .nil .nil .nil) (.node (some c183) .nil .nil .nil .nil) .nil .nil) (.node (some c71) (.node (some c135) .nil .nil .nil .nil) .nil .nil .nil)) (.node (some c11) (.node (some c27) .nil (.node (some c155) .nil .nil .nil .nil) .nil .nil) (.node (some c43) (.node (some c107) .nil .nil .nil .nil) .nil .nil .nil) (.node (some c59) (.node (some c123) .nil .nil .nil .nil) (.node (some c187) .nil .nil .nil .nil) .nil .nil) (.node (some c75) (.node (some c139) .nil .nil .nil .nil) (.node (some c203) .nil .nil .nil .nil) .nil .nil)) (.node (some c15) (.node (some c31) .nil (.node (some c159) .nil .nil .nil .nil) .nil .nil) (.node (some c47) (.node (some c111) .nil .nil .nil .nil) .nil .nil .nil) (.node (some c63) (.node (some c127) .nil .nil .nil .nil) (.node (some c191) .nil .nil .nil .nil) .nil .nil) (.node (some c79) .nil .nil .nil .nil)) (.node (some c19) (.node (some c35) (.node (some c99) .nil .nil .nil .nil) .nil (.node (some c227) .nil .nil .nil .nil) .nil) (.node (some c51) (.node (some c115) .nil .nil .nil .nil) .nil .nil .nil) (.node (some c67) (.node (some c131) .nil .nil .nil .nil) .nil .nil .nil) .nil)) (.node (some c4) (.node (some c8) (.node (some c24) (.node (some c88) .nil .nil .nil .nil) .nil (.node (some c216) .nil .nil .nil .nil) .nil) (.node (some c40) (.node (some c104) .nil .nil .nil .nil) (.node (some c168) .nil .nil .nil .nil) .nil .nil) (.node (some c56) (.node (some c120) .nil .nil .nil .nil) (.node (some c184) .nil .nil .nil .nil) .nil .nil) (.node (some c72) .nil .nil .nil .nil)) (.node (some c12) (.node (some c28) .nil (.node (some c156) .nil .nil .nil .nil) .nil .nil) (.node (some c44) (.node (some c108) .nil .nil .nil .nil) .nil .nil .nil) (.node (some c60) (.node (some c124) .nil .nil .nil .nil) (.node (some c188) .nil .nil .nil .nil) .nil .nil) (.node (some c76) (.node (some c140) .nil .nil .nil .nil) .nil .nil .nil)) (.node (some c16) (.node (some c32) .nil (.node (some c160) .nil .nil .nil .nil) .nil .nil) (.node (some c48) (.node (some c112) .nil .nil .nil .nil) (.node (some c176) .nil .nil .nil .nil) .nil .nil) (.node (some c64) (.node (some c128) .nil .nil .nil .nil) .nil .nil .nil) (.node (some c80) (.node (some c144) .nil .nil .nil .nil) .nil .nil .nil)) (.node (some c20) (.node none (.node (some c100) .nil .nil .nil .nil) .nil (.node (some c228) .nil .nil .nil .nil) .nil) (.node (some c52) .nil (.node (some c180) .nil .nil .nil .nil) .nil .nil) (.node (some c68) (.node (some c132) .nil .nil .nil .nil) .nil .nil .nil) .nil)))
def cpL : CP := fun f => PT.get tab f
theorem h3 : cpOf Tryz.prog 3 = some c3 := by kernel_rfl
theorem h4 : cpOf Tryz.prog 4 = some c4 := by kernel_rfl
theorem h5 : cpOf Tryz.prog 5 = some c5 := by kernel_rfl
theorem h6 : cpOf Tryz.prog 6 = some c6 := by kernel_rfl
theorem h7 : cpOf Tryz.prog 7 = some c7 := by kernel_rfl
theorem h8 : cpOf Tryz.prog 8 = some c8 := by kernel_rfl
theorem h9 : cpOf Tryz.prog 9 = some c9 := by kernel_rfl
theorem h10 : cpOf Tryz.prog 10 = some c10 := by kernel_rfl
theorem h11 : cpOf Tryz.prog 11 = some c11 := by kernel_rfl
theorem h12 : cpOf Tryz.prog 12 = some c12 := by kernel_rfl
theorem h13 : cpOf Tryz.prog 13 = some c13 := by kernel_rfl
theorem h14 : cpOf Tryz.prog 14 = some c14 := by kernel_rfl
theorem h15 : cpOf Tryz.prog 15 = some c15 := by kernel_rfl
theorem h16 : cpOf Tryz.prog 16 = some c16 := by kernel_rfl
theorem h17 : cpOf Tryz.prog 17 = some c17 := by kernel_rfl
theorem h18 : cpOf Tryz.prog 18 = some c18 := by kernel_rfl
theorem h19 : cpOf Tryz.prog 19 = some c19 := by kernel_rfl
theorem h20 : cpOf Tryz.prog 20 = some c20 := by kernel_rfl
theorem h21 : cpOf Tryz.prog 21 = some c21 := by kernel_rfl
theorem h22 : cpOf Tryz.prog 22 = some c22 := by kernel_rfl
theorem h23 : cpOf Tryz.prog 23 = some c23 := by kernel_rfl
theorem h24 : cpOf Tryz.prog 24 = some c24 := by kernel_rfl
theorem h25 : cpOf Tryz.prog 25 = some c25 := by kernel_rfl
theorem h26 : cpOf Tryz.prog 26 = some c26 := by kernel_rfl
theorem h27 : cpOf Tryz.prog 27 = some c27 := by kernel_rfl
theorem h28 : cpOf Tryz.prog 28 = some c28 := by kernel_rfl
theorem h29 : cpOf Tryz.prog 29 = some c29 := by kernel_rfl
theorem h30 : cpOf Tryz.prog 30 = some c30 := by kernel_rfl
theorem h31 : cpOf Tryz.prog 31 = some c31 := by kernel_rfl
theorem h32 : cpOf Tryz.prog 32 = some c32 := by kernel_rfl
theorem h33 : cpOf Tryz.prog 33 = some c33 := by kernel_rfl
theorem h34 : cpOf Tryz.prog 34 = some c34 := by kernel_rfl
theorem h35 : cpOf Tryz.prog 35 = some c35 := by kernel_rfl
theorem h38 : cpOf Tryz.prog 38 = some c38 := by kernel_rfl
theorem h39 : cpOf Tryz.prog 39 = some c39 := by kernel_rfl
theorem h40 : cpOf Tryz.prog 40 = some c40 := by kernel_rfl
theorem h41 : cpOf Tryz.prog 41 = some c41 := by kernel_rfl
theorem h42 : cpOf Tryz.prog 42 = some c42 := by kernel_rfl
theorem h43 : cpOf Tryz.prog 43 = some c43 := by kernel_rfl
theorem h44 : cpOf Tryz.prog 44 = some c44 := by kernel_rfl
theorem h45 : cpOf Tryz.prog 45 = some c45 := by kernel_rfl
theorem h46 : cpOf Tryz.prog 46 = some c46 := by kernel_rfl
theorem h47 : cpOf Tryz.prog 47 = some c47 := by kernel_rfl
theorem h48 : cpOf Tryz.prog 48 = some c48 := by kernel_rfl
theorem h49 : cpOf Tryz.prog 49 = some c49 := by kernel_rfl
theorem h50 : cpOf Tryz.prog 50 = some c50 := by kernel_rfl
theorem h51 : cpOf Tryz.prog 51 = some c51 := by kernel_rfl
theorem h52 : cpOf Tryz.prog 52 = some c52 := by kernel_rfl
theorem h53 : cpOf Tryz.prog 53 = some c53 := by kernel_rfl
theorem h54 : cpOf Tryz.prog 54 = some c54 := by kernel_rfl
theorem h55 : cpOf Tryz.prog 55 = some c55 := by kernel_rfl
theorem h56 : cpOf Tryz.prog 56 = some c56 := by kernel_rfl
theorem h57 : cpOf Tryz.prog 57 = some c57 := by kernel_rfl
theorem h58 : cpOf Tryz.prog 58 = some c58 := by kernel_rfl
theorem h59 : cpOf Tryz.prog 59 = some c59 := by kernel_rfl
theorem h60 : cpOf Tryz.prog 60 = some c60 := by kernel_rfl
theorem h62 : cpOf Tryz.prog 62 = some c62 := by kernel_rfl
theorem h63 : cpOf Tryz.prog 63 = some c63 := by kernel_rfl
theorem h64 : cpOf Tryz.prog 64 = some c64 := by kernel_rfl
theorem h65 : cpOf Tryz.prog 65 = some c65 := by kernel_rfl
theorem h66 : cpOf Tryz.prog 66 = some c66 := by kernel_rfl
theorem h67 : cpOf Tryz.prog 67 = some c67 := by kernel_rfl
theorem h68 : cpOf Tryz.prog 68 = some c68 := by kernel_rfl
theorem h69 : cpOf Tryz.prog 69 = some c69 := by kernel_rfl
theorem h70 : cpOf Tryz.prog 70 = some c70 := by kernel_rfl
theorem h71 : cpOf Tryz.prog 71 = some c71 := by kernel_rfl
theorem h72 : cpOf Tryz.prog 72 = some c72 := by kernel_rfl
theorem h73 : cpOf Tryz.prog 73 = some c73 := by kernel_rfl
theorem h74 : cpOf Tryz.prog 74 = some c74 := by kernel_rfl
theorem h75 : cpOf Tryz.prog 75 = some c75 := by kernel_rfl
theorem h76 : cpOf Tryz.prog 76 = some c76 := by kernel_rfl
theorem h77 : cpOf Tryz.prog 77 = some c77 := by kernel_rfl
theorem h78 : cpOf Tryz.prog 78 = some c78 := by kernel_rfl
theorem h79 : cpOf Tryz.prog 79 = some c79 := by kernel_rfl
theorem h80 : cpOf Tryz.prog 80 = some c80 := by kernel_rfl
theorem h81 : cpOf Tryz.prog 81 = some c81 := by kernel_rfl
theorem h86 : cpOf Tryz.prog 86 = some c86 := by kernel_rfl
theorem h87 : cpOf Tryz.prog 87 = some c87 := by kernel_rfl
theorem h88 : cpOf Tryz.prog 88 = some c88 := by kernel_rfl
theorem h89 : cpOf Tryz.prog 89 = some c89 := by kernel_rfl
theorem h99 : cpOf Tryz.prog 99 = some c99 := by kernel_rfl
theorem h100 : cpOf Tryz.prog 100 = some c100 := by kernel_rfl
theorem h101 : cpOf Tryz.prog 101 = some c101 := by kernel_rfl
theorem h102 : cpOf Tryz.prog 102 = some c102 := by kernel_rfl
theorem h103 : cpOf Tryz.prog 103 = some c103 := by kernel_rfl
theorem h104 : cpOf Tryz.prog 104 = some c104 := by kernel_rfl
theorem h106 : cpOf Tryz.prog 106 = some c106 := by kernel_rfl
theorem h107 : cpOf Tryz.prog 107 = some c107 := by kernel_rfl
theorem h108 : cpOf Tryz.prog 108 = some c108 := by kernel_rfl
theorem h109 : cpOf Tryz.prog 109 = some c109 := by kernel_rfl
theorem h110 : cpOf Tryz.prog 110 = some c110 := by kernel_rfl
theorem h111 : cpOf Tryz.prog 111 = some c111 := by kernel_rfl
theorem h112 : cpOf Tryz.prog 112 = some c112 := by kernel_rfl
theorem h113 : cpOf Tryz.prog 113 = some c113 := by kernel_rfl
theorem h114 : cpOf Tryz.prog 114 = some c114 := by kernel_rfl
theorem h115 : cpOf Tryz.prog 115 = some c115 := by kernel_rfl
theorem h119 : cpOf Tryz.prog 119 = some c119 := by kernel_rfl
theorem h120 : cpOf Tryz.prog 120 = some c120 := by kernel_rfl
theorem h121 : cpOf Tryz.prog 121 = some c121 := by kernel_rfl
theorem h122 : cpOf Tryz.prog 122 = some c122 := by kernel_rfl
theorem h123 : cpOf Tryz.prog 123 = some c123 := by kernel_rfl
theorem h124 : cpOf Tryz.prog 124 = some c124 := by kernel_rfl
theorem h125 : cpOf Tryz.prog 125 = some c125 := by kernel_rfl
theorem h126 : cpOf Tryz.prog 126 = some c126 := by kernel_rfl
theorem h127 : cpOf Tryz.prog 127 = some c127 := by kernel_rfl
theorem h128 : cpOf Tryz.prog 128 = some c128 := by kernel_rfl
theorem h129 : cpOf Tryz.prog 129 = some c129 := by kernel_rfl
theorem h130 : cpOf Tryz.prog 130 = some c130 := by kernel_rfl
theorem h131 : cpOf Tryz.prog 131 = some c131 := by kernel_rfl
theorem h132 : cpOf Tryz.prog 132 = some c132 := by kernel_rfl
theorem h133 : cpOf Tryz.prog 133 = some c133 := by kernel_rfl
theorem h134 : cpOf Tryz.prog 134 = some c134 := by kernel_rfl
theorem h135 : cpOf Tryz.prog 135 = some c135 := by kernel_rfl
theorem h137 : cpOf Tryz.prog 137 = some c137 := by kernel_rfl
theorem h138 : cpOf Tryz.prog 138 = some c138 := by kernel_rfl
theorem h139 : cpOf Tryz.prog 139 = some c139 := by kernel_rfl
theorem h140 : cpOf Tryz.prog 140 = some c140 := by kernel_rfl
theorem h144 : cpOf Tryz.prog 144 = some c144 := by kernel_rfl
theorem h145 : cpOf Tryz.prog 145 = some c145 := by kernel_rfl
theorem h155 : cpOf Tryz.prog 155 = some c155 := by kernel_rfl
theorem h156 : cpOf Tryz.prog 156 = some c156 := by kernel_rfl
theorem h157 : cpOf Tryz.prog 157 = some c157 := by kernel_rfl
theorem h158 : cpOf Tryz.prog 158 = some c158 := by kernel_rfl
theorem h159 : cpOf Tryz.prog 159 = some c159 := by kernel_rfl
theorem h160 : cpOf Tryz.prog 160 = some c160 := by kernel_rfl
theorem h161 : cpOf Tryz.prog 161 = some c161 := by kernel_rfl
theorem h162 : cpOf Tryz.prog 162 = some c162 := by kernel_rfl
theorem h168 : cpOf Tryz.prog 168 = some c168 := by kernel_rfl
theorem h173 : cpOf Tryz.prog 173 = some c173 := by kernel_rfl
theorem h174 : cpOf Tryz.prog 174 = some c174 := by kernel_rfl
theorem h176 : cpOf Tryz.prog 176 = some c176 := by kernel_rfl
theorem h180 : cpOf Tryz.prog 180 = some c180 := by kernel_rfl
theorem h181 : cpOf Tryz.prog 181 = some c181 := by kernel_rfl
theorem h182 : cpOf Tryz.prog 182 = some c182 := by kernel_rfl
theorem h183 : cpOf Tryz.prog 183 = some c183 := by kernel_rfl
theorem h184 : cpOf Tryz.prog 184 = some c184 := by kernel_rfl
theorem h185 : cpOf Tryz.prog 185 = some c185 := by kernel_rfl
theorem h186 : cpOf Tryz.prog 186 = some c186 := by kernel_rfl
theorem h187 : cpOf Tryz.prog 187 = some c187 := by kernel_rfl
theorem h188 : cpOf Tryz.prog 188 = some c188 := by kernel_rfl
theorem h189 : cpOf Tryz.prog 189 = some c189 := by kernel_rfl
theorem h190 : cpOf Tryz.prog 190 = some c190 := by kernel_rfl
theorem h191 : cpOf Tryz.prog 191 = some c191 := by kernel_rfl
theorem h202 : cpOf Tryz.prog 202 = some c202 := by kernel_rfl
theorem h203 : cpOf Tryz.prog 203 = some c203 := by kernel_rfl
theorem h215 : cpOf Tryz.prog 215 = some c215 := by kernel_rfl
theorem h216 : cpOf Tryz.prog 216 = some c216 := by kernel_rfl
theorem h221 : cpOf Tryz.prog 221 = some c221 := by kernel_rfl
theorem h222 : cpOf Tryz.prog 222 = some c222 := by kernel_rfl
theorem h227 : cpOf Tryz.prog 227 = some c227 := by kernel_rfl
theorem h228 : cpOf Tryz.prog 228 = some c228 := by kernel_rfl
theorem h231 : cpOf Tryz.prog 231 = some c231 := by kernel_rfl
def q (f : Nat) (c : CFun) : Prop := cpOf Tryz.prog f = some c
theorem cpL_le : PLe cpL (cpOf Tryz.prog) := PT.all_get (p := q) tab ⟨trivial, ⟨trivial, ⟨@entry _ q 5 _ h5, ⟨@entry _ q 21 _ h21, trivial, trivial, trivial, trivial⟩, ⟨trivial, ⟨@entry _ q 101 _ h101, trivial, trivial, trivial, trivial⟩, trivial, trivial, trivial⟩, ⟨@entry _ q 53 _ h53, trivial, ⟨@entry _ q 181 _ h181, trivial, trivial, trivial, trivial⟩, trivial, trivial⟩, ⟨@entry _ q 69 _ h69, ⟨@entry _ q 133 _ h133, trivial, trivial, trivial, trivial⟩, trivial, trivial, trivial⟩⟩, ⟨@entry _ q 9 _ h9, ⟨@entry _ q 25 _ h25, ⟨@entry _ q 89 _ h89, trivial, trivial, trivial, trivial⟩, trivial, trivial, trivial⟩, ⟨@entry _ q 41 _ h41, trivial, trivial, trivial, trivial⟩, ⟨@entry _ q 57 _ h57, ⟨@entry _ q 121 _ h121, trivial, trivial, trivial, trivial⟩, ⟨@entry _ q 185 _ h185, trivial, trivial, trivial, trivial⟩, trivial, trivial⟩, ⟨@entry _ q 73 _ h73, ⟨@entry _ q 137 _ h137, trivial, trivial, trivial, trivial⟩, trivial, trivial, trivial⟩⟩, ⟨@entry _ q 13 _ h13, ⟨@entry _ q 29 _ h29, trivial, ⟨@entry _ q 157 _ h157, trivial, trivial, trivial, trivial⟩, ⟨@entry _ q 221 _ h221, trivial, trivial, trivial, trivial⟩, trivial⟩, ⟨@entry _ q 45 _ h45, ⟨@entry _ q 109 _ h109, trivial, trivial, trivial, trivial⟩, ⟨@entry _ q 173 _ h173, trivial, trivial, trivial, trivial⟩, trivial, trivial⟩, ⟨trivial, ⟨@entry _ q 125 _ h125, trivial, trivial, trivial, trivial⟩, ⟨@entry _ q 189 _ h189, trivial, trivial, trivial, trivial⟩, trivial, trivial⟩, ⟨@entry _ q 77 _ h77, trivial, trivial, trivial, trivial⟩⟩, ⟨@entry _ q 17 _ h17, ⟨@entry _ q 33 _ h33, trivial, ⟨@entry _ q 161 _ h161, trivial, trivial, trivial, trivial⟩, trivial, trivial⟩, ⟨@entry _ q 49 _ h49, ⟨@entry _ q 113 _ h113, trivial, trivial, trivial, trivial⟩, trivial, trivial, trivial⟩, ⟨@entry _ q 65 _ h65, ⟨@entry _ q 129 _ h129, trivial, trivial, trivial, trivial⟩, trivial, trivial, trivial⟩, ⟨@entry _ q 81 _ h81, ⟨@entry _ q 145 _ h145, trivial, trivial, trivial, trivial⟩, trivial, trivial, trivial⟩⟩⟩, ⟨trivial, ⟨@entry _ q 6 _ h6, ⟨@entry _ q 22 _ h22, ⟨@entry _ q 86 _ h86, trivial, trivial, trivial, trivial⟩, trivial, trivial, trivial⟩, ⟨@entry _ q 38 _ h38, ⟨@entry _ q 102 _ h102, trivial, trivial, trivial, trivial⟩, trivial, trivial, trivial⟩, ⟨@entry _ q 54 _ h54, trivial, ⟨@entry _ q 182 _ h182, trivial, trivial, trivial, trivial⟩, trivial, trivial⟩, ⟨@entry _ q 70 _ h70, ⟨@entry _ q 134 _ h134, trivial, trivial, trivial, trivial⟩, trivial, trivial, trivial⟩⟩, ⟨@entry _ q 10 _ h10, ⟨@entry _ q 26 _ h26, trivial, trivial, trivial, trivial⟩, ⟨@entry _ q 42 _ h42, ⟨@entry _ q 106 _ h106, trivial, trivial, trivial, trivial⟩, trivial, trivial, trivial⟩, ⟨@entry _ q 58 _ h58, ⟨@entry _ q 122 _ h122, trivial, trivial, trivial, trivial⟩, ⟨@entry _ q 186 _ h186, trivial, trivial, trivial, trivial⟩, trivial, trivial⟩, ⟨@entry _ q 74 _ h74, ⟨@entry _ q 138 _ h138, trivial, trivial, trivial, trivial⟩, ⟨@entry _ q 202 _ h202, trivial, trivial, trivial, trivial⟩, trivial, trivial⟩⟩, ⟨@entry _ q 14 _ h14, ⟨@entry _ q 30 _ h30, trivial, ⟨@entry _ q 158 _ h158, trivial, trivial, trivial, trivial⟩, ⟨@entry _ q 222 _ h222, trivial, trivial, trivial, trivial⟩, trivial⟩, ⟨@entry _ q 46 _ h46, ⟨@entry _ q 110 _ h110, trivial, trivial, trivial, trivial⟩, ⟨@entry _ q 174 _ h174, trivial, trivial, trivial, trivial⟩, trivial, trivial⟩, ⟨@entry _ q 62 _ h62, ⟨@entry _ q 126 _ h126, trivial, trivial, trivial, trivial⟩, ⟨@entry _ q 190 _ h190, trivial, trivial, trivial, trivial⟩, trivial, trivial⟩, ⟨@entry _ q 78 _ h78, trivial, trivial, trivial, trivial⟩⟩, ⟨@entry _ q 18 _ h18, ⟨@entry _ q 34 _ h34, trivial, ⟨@entry _ q 162 _ h162, trivial, trivial, trivial, trivial⟩, trivial, trivial⟩, ⟨@entry _ q 50 _ h50, ⟨@entry _ q 114 _ h114, trivial, trivial, trivial, trivial⟩, trivial, trivial, trivial⟩, ⟨@entry _ q 66 _ h66, ⟨@entry _ q 130 _ h130, trivial, trivial, trivial, trivial⟩, trivial, trivial, trivial⟩, trivial⟩⟩, ⟨@entry _ q 3 _ h3, ⟨@entry _ q 7 _ h7, ⟨@entry _ q 23 _ h23, ⟨@entry _ q 87 _ h87, trivial, trivial, trivial, trivial⟩, trivial, ⟨@entry _ q 215 _ h215, trivial, trivial, trivial, trivial⟩, trivial⟩, ⟨@entry _ q 39 _ h39, ⟨@entry _ q 103 _ h103, trivial, trivial, trivial, trivial⟩, trivial, ⟨@entry _ q 231 _ h231, trivial, trivial, trivial, trivial⟩, trivial⟩, ⟨@entry _ q 55 _ h55, ⟨@entry _ q 119 _ h119, trivial, trivial, trivial, trivial⟩, ⟨@entry _ q 183 _ h183, trivial, trivial, trivial, trivial⟩, trivial, trivial⟩, ⟨@entry _ q 71 _ h71, ⟨@entry _ q 135 _ h135, trivial, trivial, trivial, trivial⟩, trivial, trivial, trivial⟩⟩, ⟨@entry _ q 11 _ h11, ⟨@entry _ q 27 _ h27, trivial, ⟨@entry _ q 155 _ h155, trivial, trivial, trivial, trivial⟩, trivial, trivial⟩, ⟨@entry _ q 43 _ h43, ⟨@entry _ q 107 _ h107, trivial, trivial, trivial, trivial⟩, trivial, trivial, trivial⟩, ⟨@entry _ q 59 _ h59, ⟨@entry _ q 123 _ h123, trivial, trivial, trivial, trivial⟩, ⟨@entry _ q 187 _ h187, trivial, trivial, trivial, trivial⟩, trivial, trivial⟩, ⟨@entry _ q 75 _ h75, ⟨@entry _ q 139 _ h139, trivial, trivial, trivial, trivial⟩, ⟨@entry _ q 203 _ h203, trivial, trivial, trivial, trivial⟩, trivial, trivial⟩⟩, ⟨@entry _ q 15 _ h15, ⟨@entry _ q 31 _ h31, trivial, ⟨@entry _ q 159 _ h159, trivial, trivial, trivial, trivial⟩, trivial, trivial⟩, ⟨@entry _ q 47 _ h47, ⟨@entry _ q 111 _ h111, trivial, trivial, trivial, trivial⟩, trivial, trivial, trivial⟩, ⟨@entry _ q 63 _ h63, ⟨@entry _ q 127 _ h127, trivial, trivial, trivial, trivial⟩, ⟨@entry _ q 191 _ h191, trivial, trivial, trivial, trivial⟩, trivial, trivial⟩, ⟨@entry _ q 79 _ h79, trivial, trivial, trivial, trivial⟩⟩, ⟨@entry _ q 19 _ h19, ⟨@entry _ q 35 _ h35, ⟨@entry _ q 99 _ h99, trivial, trivial, trivial, trivial⟩, trivial, ⟨@entry _ q 227 _ h227, trivial, trivial, trivial, trivial⟩, trivial⟩, ⟨@entry _ q 51 _ h51, ⟨@entry _ q 115 _ h115, trivial, trivial, trivial, trivial⟩, trivial, trivial, trivial⟩, ⟨@entry _ q 67 _ h67, ⟨@entry _ q 131 _ h131, trivial, trivial, trivial, trivial⟩, trivial, trivial, trivial⟩, trivial⟩⟩, ⟨@entry _ q 4 _ h4, ⟨@entry _ q 8 _ h8, ⟨@entry _ q 24 _ h24, ⟨@entry _ q 88 _ h88, trivial, trivial, trivial, trivial⟩, trivial, ⟨@entry _ q 216 _ h216, trivial, trivial, trivial, trivial⟩, trivial⟩, ⟨@entry _ q 40 _ h40, ⟨@entry _ q 104 _ h104, trivial, trivial, trivial, trivial⟩, ⟨@entry _ q 168 _ h168, trivial, trivial, trivial, trivial⟩, trivial, trivial⟩, ⟨@entry _ q 56 _ h56, ⟨@entry _ q 120 _ h120, trivial, trivial, trivial, trivial⟩, ⟨@entry _ q 184 _ h184, trivial, trivial, trivial, trivial⟩, trivial, trivial⟩, ⟨@entry _ q 72 _ h72, trivial, trivial, trivial, trivial⟩⟩, ⟨@entry _ q 12 _ h12, ⟨@entry _ q 28 _ h28, trivial, ⟨@entry _ q 156 _ h156, trivial, trivial, trivial, trivial⟩, trivial, trivial⟩, ⟨@entry _ q 44 _ h44, ⟨@entry _ q 108 _ h108, trivial, trivial, trivial, trivial⟩, trivial, trivial, trivial⟩, ⟨@entry _ q 60 _ h60, ⟨@entry _ q 124 _ h124, trivial, trivial, trivial, trivial⟩, ⟨@entry _ q 188 _ h188, trivial, trivial, trivial, trivial⟩, trivial, trivial⟩, ⟨@entry _ q 76 _ h76, ⟨@entry _ q 140 _ h140, trivial, trivial, trivial, trivial⟩, trivial, trivial, trivial⟩⟩, ⟨@entry _ q 16 _ h16, ⟨@entry _ q 32 _ h32, trivial, ⟨@entry _ q 160 _ h160, trivial, trivial, trivial, trivial⟩, trivial, trivial⟩, ⟨@entry _ q 48 _ h48, ⟨@entry _ q 112 _ h112, trivial, trivial, trivial, trivial⟩, ⟨@entry _ q 176 _ h176, trivial, trivial, trivial, trivial⟩, trivial, trivial⟩, ⟨@entry _ q 64 _ h64, ⟨@entry _ q 128 _ h128, trivial, trivial, trivial, trivial⟩, trivial, trivial, trivial⟩, ⟨@entry _ q 80 _ h80, ⟨@entry _ q 144 _ h144, trivial, trivial, trivial, trivial⟩, trivial, trivial, trivial⟩⟩, ⟨@entry _ q 20 _ h20, ⟨trivial, ⟨@entry _ q 100 _ h100, trivial, trivial, trivial, trivial⟩, trivial, ⟨@entry _ q 228 _ h228, trivial, trivial, trivial, trivial⟩, trivial⟩, ⟨@entry _ q 52 _ h52, trivial, ⟨@entry _ q 180 _ h180, trivial, trivial, trivial, trivial⟩, trivial, trivial⟩, ⟨@entry _ q 68 _ h68, ⟨@entry _ q 132 _ h132, trivial, trivial, trivial, trivial⟩, trivial, trivial, trivial⟩, trivial⟩⟩⟩
end Go.Proofs.YtdofpjabgnfglaaGreatDoor
